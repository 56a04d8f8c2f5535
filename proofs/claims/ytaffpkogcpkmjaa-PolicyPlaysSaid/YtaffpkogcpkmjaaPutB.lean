/- code.Put makes a buffer that may be written. -/
import Derived.Test.YtaffpkogcpkmjaaPutA
import Derived.Test.YtaffpkogcpkmjaaBuf2
namespace Go.Proofs.Ytaffpkogcpkmjaa
open Go.RowKit
set_option linter.unusedVariables false
set_option linter.unusedSimpArgs false
set_option maxRecDepth 10000
theorem acut_room {a b : List AV} {n j : Nat} (hn : a.length = n) (hb : b.length ≤ j) : acut (a ++ anys j) n b = a ++ b ++ anys (j - b.length) := by
  subst hn
  unfold acut anys
  rw [List.take_left, List.drop_append, List.drop_of_length_le (by omega), List.nil_append, Nat.add_sub_cancel_left, List.drop_replicate]
theorem ABuf.own {P : Program} {f : FuncId} {cs cells : List AV} {n L sz : Nat} {R : AV → AV} (h : ABuf P f [.sl .none cs n] R cells L sz) (own : AOwn) : ABuf P f [.sl own cs n] R cells L sz := fun σ base Fi M w vs S hr => h σ base Fi M w vs S (by
  unfold RepsL at hr ⊢
  obtain ⟨v, vr, e1, e2, e3⟩ := hr
  refine ⟨v, vr, e1, ?_, e3⟩
  unfold Reps at e2 ⊢
  obtain ⟨A, c, vs, h1, h2, h3, h4, h5, h6, h7, h8⟩ := e2
  exact ⟨A, c, vs, h1, h2, h3, h4, h5, h6, h7, trivial⟩)
theorem AWeakS.nil {o : List (Int × List AV)} {t : List (Int × Nat)} {n n0 : Int} (h : n0 ≤ n) : AWeakS ⟨[], [], n⟩ ⟨o, t, n0⟩ := ⟨fun i c hl => by simp [alook] at hl, fun i c hl => by simp [alook] at hl, h⟩
theorem AWeakS.cons {i : Int} {c c0 : List AV} {o1 o : List (Int × List AV)} {t : List (Int × Nat)} {n n0 : Int} (h : AWeakS ⟨o1, [], n⟩ ⟨o, t, n0⟩) (hc : c = c0 ∨ c = AV.wkL c0) : AWeakS ⟨(i, c) :: o1, [], n⟩ ⟨(i, c0) :: o, t, n0⟩ := by
  refine ⟨fun i' c' hl => ?_, fun i' c' hl => by simp [alook] at hl, h.next⟩
  simp only [alook] at hl ⊢
  split at hl
  · rename_i he
    cases hl
    rw [if_pos he]
    exact ⟨c0, rfl, hc⟩
  · rename_i he
    rw [if_neg he]
    exact h.objs i' c' hl
abbrev bufT (b : AV) : AV := .tup [b, .int .i64 0]
theorem bufT_R : BufR bufT := BufR.id.tup 0 .i64
theorem ptB_pos (p : Pt) : 2 ≤ (ptB p).length := by cases p <;> simp [ptB, numB, textB]
set_option maxHeartbeats 4000000 in
theorem put_buf0 (ps : List Pt) (h0 : 0 < ps.length) (hn : ps.length ≤ 1000) (hm : ∀ l, Sum.inr l ∈ ps → l.length ≤ 1000000) (hok : ∀ p ∈ ps, ptErr p = 0) : ABuf Try.prog 37 [.sl .none (ps.map ptA) ps.length] bufT ((putB ps).map bvA) (putB ps).length 1 := by
  refine ABuf.mk (by unfold AV.shutL AV.shut; simp [ptAs_shut, AV.shutL]) (shutL_bvA _) bufT_R ?_
  refine ACalls_body Try.func37 rfl rfl ?_
  simp only [Try.ntmps37, List.length_cons, List.length_nil, Nat.reduceAdd, Nat.reduceSub, List.replicate_succ, List.replicate_zero, List.cons_append, List.nil_append]
  refine Run ?_ trivial trivial trivial trivial trivial trivial trivial trivial trivial trivial trivial trivial
  refine AWP_loopW [2, 3, 4, 6, 7, 8, 9, 10, 11, 12, 13, 14, 15, 16, 17, 18, 19, 20, 21, 22, 23, 24, 25, 26] (N := Nat × AV × List (Int × List AV) × Int × List AV) (fun ⟨k, v, ob, nx, js⟩ => [js.getD 0 .und, js.getD 1 .und, v, js.getD 2 .und, js.getD 3 .und, js.getD 4 .und, .sl .none (ps.map ptA) ps.length, .int .i64 (ps.length : Int), .int .i64 (k : Int), js.getD 5 .und, js.getD 6 .und, js.getD 7 .und, js.getD 8 .und, js.getD 9 .und, js.getD 10 .und, js.getD 11 .und, js.getD 12 .und, js.getD 13 .und, js.getD 14 .und, js.getD 15 .und, js.getD 16 .und, js.getD 17 .und, js.getD 18 .und, js.getD 19 .und]) (fun ⟨k, v, ob, nx, js⟩ => ⟨ob, [], nx⟩) (fun ⟨k, v, ob, nx, js⟩ => k ≤ ps.length ∧ 0 ≤ nx ∧ ((k = 0 ∧ v = .nils ∧ ob = []) ∨ (0 < k ∧ ∃ id n j, 0 ≤ id ∧ id < nx ∧ n = (putB (ps.take k)).length ∧ v = .buf id 0 n (n + j) ∧ ob = [(id, (putB (ps.take k)).map bvA ++ anys j)]))) (fun ⟨k, v, ob, nx, js⟩ => ps.length - k) ⟨0, .nils, [], 0, [_, _, _, _, _, _, _, _, _, _, _, _, _, _, _, _, _, _, _, _]⟩ rfl ?hs0 ?hi0 ?_
  rotate_left 2
  rintro ⟨k, v, ob, nx, js⟩ sl_ hs hi
  simp only [setsF, setF, Option.some.injEq] at hs
  subst hs
  case hs0 => exact ASub.refl _
  case hi0 => exact ⟨by omega, by omega, .inl ⟨rfl, rfl, rfl⟩⟩
  obtain ⟨hk, hnx, hv⟩ := hi
  by_cases hlt : k < ps.length
  · have hel : ps[k]? = some ps[k] := List.getElem?_eq_getElem hlt
    have hc : (ps.map ptA)[k]? = some (ptA ps[k]) := by rw [List.getElem?_map, hel]; rfl
    have h1 := part_val ps[k] (fun l hl => hm l (by rw [← hl]; exact List.getElem_mem hlt))
    have hs1 : ps.take (k + 1) = ps.take k ++ [ps[k]] := by rw [List.take_add_one, hel]; rfl
    have he : ptErr ps[k] = 0 := hok _ (List.getElem_mem hlt)
    have hp : ptR ps[k] = okA (ptB ps[k]) := by unfold ptR; rw [if_pos he]
    rw [hp] at h1
    have hle2 := ptB_le ps[k] he
    have hpos := ptB_pos ps[k]
    rcases hv with ⟨rfl, rfl, rfl⟩ | ⟨hk0, id, n, j, hid, hidn, hnl, rfl, rfl⟩
    · refine Run ?_ trivial trivial trivial trivial trivial trivial trivial trivial OwnB.ok trivial trivial trivial
      with_reducible apply B_append_nils
      case hx => rfl
      case hy => rfl
      case hS => exact SrcS.of (SrcOk_bytes inferInstance rfl)
      case h0 => omega
      case hb => constructor <;> omega
      intro j
      refine Run ?_ trivial trivial trivial trivial trivial trivial trivial trivial trivial trivial trivial trivial
      refine ALoopW_normal ⟨0 + 1, _, [(nx, (putB (ps.take 1)).map bvA ++ anys j)], nx + 1, [_, _, _, _, _, _, _, _, _, _, _, _, _, _, _, _, _, _, _, _]⟩ rfl ?hs1 ?hi1 ?hm1
      case hs1 =>
        have e1 : putB (ps.take 1) = ptB ps[0] := by rw [hs1]; simp [putB]
        rw [e1]
        simp only [anys, Nat.mul_one]
        exact ASub.refl _
      case hi1 =>
        refine ⟨by omega, by omega, .inr ⟨by omega, nx, (ptB ps[0]).length, j, by omega, by omega, ?_, rfl, rfl⟩⟩
        rw [hs1]; simp [putB]
      case hm1 => simp only; omega
    · have hle := putB_le (ps.take k) (fun p hp => hok p (List.mem_of_mem_take hp))
      rw [List.length_take] at hle
      have hfl : ((putB (ps.take k)).map bvA).length = n := by simp [hnl]
      refine Run ?_ trivial trivial trivial trivial trivial trivial trivial trivial trivial trivial trivial trivial
      by_cases hj : (ptB ps[k]).length ≤ j
      · with_reducible apply B_append_room
        case hx => rfl
        case hy => rfl
        case ho => simp only [alook, if_true]; rfl
        case hS => exact SrcS.of (SrcOk_bytes inferInstance rfl)
        case hg => omega
        case hl => rewrite [List.length_append, anys_len, hfl]; omega
        case hc => rewrite [Nat.zero_add, Nat.mul_one]; exact acut_room hfl (by simpa using hj)
        case hob => simp only [asetF, if_true]; rfl
        case hs => exact aput_ok rfl
        refine Run ?_ trivial trivial trivial trivial trivial trivial trivial trivial trivial trivial trivial trivial
        refine ALoopW_normal ⟨k + 1, _, [(id, (putB (ps.take (k + 1))).map bvA ++ anys (j - (ptB ps[k]).length))], nx, [_, _, _, _, _, _, _, _, _, _, _, _, _, _, _, _, _, _, _, _]⟩ rfl ?hs1 ?hi1 ?hm1
        case hs1 =>
          rw [hs1, putB_snoc, List.map_append, List.length_map]
          exact ASub.refl _
        case hi1 =>
          refine ⟨by omega, by omega, .inr ⟨by omega, id, n + (ptB ps[k]).length, j - (ptB ps[k]).length, hid, by omega, ?_, ?_, rfl⟩⟩
          · rw [hs1, putB_snoc, List.length_append, hnl]
          · rw [show n + (ptB ps[k]).length + (j - (ptB ps[k]).length) = n + j by omega]
        case hm1 => simp only; omega
      · with_reducible apply B_append_grow
        case hx => rfl
        case hy => rfl
        case ho => simp only [alook, if_true]; rfl
        case hS => exact SrcS.of (SrcOk_bytes inferInstance rfl)
        case hg => omega
        case hc => rewrite [List.drop_zero, Nat.mul_one]; exact List.take_left' hfl
        case hl => rewrite [List.length_append, anys_len, hfl]; omega
        case hb => constructor <;> omega
        intro j'
        refine Run ?_ trivial trivial trivial trivial trivial trivial trivial trivial trivial trivial trivial trivial
        refine ALoopW_normal ⟨k + 1, _, [(nx, (putB (ps.take (k + 1))).map bvA ++ anys j')], nx + 1, [_, _, _, _, _, _, _, _, _, _, _, _, _, _, _, _, _, _, _, _]⟩ rfl ?hs1 ?hi1 ?hm1
        case hs1 =>
          rw [hs1, putB_snoc, List.map_append]
          simp only [anys, Nat.mul_one]
          exact ASub.drop2
        case hi1 =>
          refine ⟨by omega, by omega, .inr ⟨by omega, nx, n + (ptB ps[k]).length, j', by omega, by omega, ?_, rfl, rfl⟩⟩
          rw [hs1, putB_snoc, List.length_append, hnl]
        case hm1 => simp only; omega
  · obtain rfl : k = ps.length := by omega
    rcases hv with ⟨h1, _⟩ | ⟨hk0, id, n, j, hid, hidn, hnl, rfl, rfl⟩
    · omega
    rw [List.take_length] at hnl
    refine Run ?_ trivial trivial trivial trivial trivial trivial trivial trivial trivial trivial trivial trivial
    rw [List.take_length]
    exact ⟨id, j, hid, by rw [← hnl]; rfl, by simp [alook]⟩
theorem put_buf (ps : List Pt) (own : AOwn) (n : Nat) (hl : ps.length = n) (h0 : 0 < n) (hn : n ≤ 1000) (hm : ∀ l, Sum.inr l ∈ ps → l.length ≤ 1000000) (hok : ∀ p ∈ ps, ptErr p = 0) : ABuf Try.prog 37 [.sl own (ps.map ptA) n] bufT ((putB ps).map bvA) (putB ps).length 1 := by subst hl; exact (put_buf0 ps h0 hn hm hok).own own
end Go.Proofs.Ytaffpkogcpkmjaa
