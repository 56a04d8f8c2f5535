/- Law 19: ServerGrows. -/
import Derived.Test.YtnjkklkjlloedaaSvF
import Derived.Test.YtnjkklkjlloedaaLkS
namespace Go.Proofs.Ytnjkklkjlloedaa
open Go.RowKit
set_option linter.unusedVariables false
set_option linter.unusedSimpArgs false
set_option maxRecDepth 10000
theorem addAll_pre : ∀ (ls lg : List (List UInt8)), ∃ t, addAll lg ls = lg ++ t
  | [], lg => ⟨[], by simp [addAll]⟩
  | x :: r, lg => by
    obtain ⟨t, ht⟩ := addAll_pre r (addL lg x)
    simp only [addAll]
    rw [ht]
    unfold addL
    split
    · exact ⟨t, rfl⟩
    · exact ⟨x :: t, by simp⟩
theorem addL_nd {lg : List (List UInt8)} {b : List UInt8} (h : lg.Nodup) : (addL lg b).Nodup := by
  unfold addL
  split
  · exact h
  · rename_i hb
    rw [List.nodup_append]
    exact ⟨h, by simp, fun x hx y hy => by rw [List.mem_singleton.1 hy]; rintro rfl; exact hb hx⟩
theorem addAll_nd : ∀ {ls lg : List (List UInt8)}, lg.Nodup → (addAll lg ls).Nodup
  | [], lg, h => h
  | x :: r, lg, h => addAll_nd (ls := r) (addL_nd h)
/-- What a log is behind a push. -/
theorem push_log {L : Lg} {k : Int × Int} {ls : List (List UInt8)} (hn : (getL L k).Nodup) : (∃ t, getL (pushL L k ls) k = getL L k ++ t) ∧ (getL (pushL L k ls) k).Nodup := by
  rw [getL_push, if_pos rfl]
  split
  · exact ⟨⟨[], by simp⟩, hn⟩
  · exact ⟨addAll_pre _ _, addAll_nd hn⟩
theorem pf_right (ls : List (List UInt8)) (hm : ls.length ≤ 1000000) : AVal Try.prog 18 [.agg [.int .i64 1, .int .i64 1, .int .i64 0, lkA ls, .sl .none [] 0]] (.bool (decide (FrOk (pf 1 ls)))) := refRight_val (pf 1 ls) hm
theorem pf_bytes {ls : List (List UInt8)} (h : FrOk (pf 1 ls)) : AVal Try.prog 20 [.agg [.int .i64 1, .int .i64 1, .int .i64 0, lkA ls, .sl .none [] 0]] (bsA (frB (pf 1 ls))) := refBytes_val (pf 1 ls) h
/-- The logs behind a frame that may be too long. -/
def nxL (L : Lg) (ls : List (List UInt8)) : Lg := if 32768 < (frB (pf 1 ls)).length then L else pushL L (0, 1) ls
def nxE (L : Lg) (ls : List (List UInt8)) : Int := if 32768 < (frB (pf 1 ls)).length then 11 else pushE L (0, 1) ls
theorem nx_fact (L : Lg) (hL : LgOk L) (ls : List (List UInt8)) (h : FrOk (pf 1 ls)) (s m : Int) : ASys Try.prog 19 [.ptr s 0, .int .i64 0, bsA (frB (pf 1 ls))] (erA (nxE L ls)) [(s, [.map m], [.map m])] [(m, mpT L, mpT (nxL L ls))] := handle_push L hL 0 (by omega) (by omega) (pf 1 ls) h rfl s m
theorem nxL_ok {L : Lg} (h : LgOk L) {ls : List (List UInt8)} (hf : FrOk (pf 1 ls)) : LgOk (nxL L ls) := by
  unfold nxL
  split
  · exact h
  · refine h.push _ _ hf.links.2 ?_
    obtain ⟨_, _, _, _, h | h | h | h⟩ := hf
    · have := h.2.1.1; simp only [pf] at this; omega
    · simp [pf] at h
    · simp [pf] at h
    · simp [pf] at h
theorem nxL_log {L : Lg} {ls : List (List UInt8)} (hn : (getL L (0, 1)).Nodup) : (∃ t, getL (nxL L ls) (0, 1) = getL L (0, 1) ++ t) ∧ (getL (nxL L ls) (0, 1)).Nodup := by
  unfold nxL
  split
  · exact ⟨⟨[], by simp⟩, hn⟩
  · exact push_log hn
theorem nd_at {l : List (List UInt8)} (h : l.Nodup) {i j : Nat} {x y : List UInt8} (hx : l[i]? = some x) (hy : l[j]? = some y) (hij : j < i) : x ≠ y := by
  rintro rfl
  obtain ⟨h1, h2⟩ := List.getElem?_eq_some_iff.1 hx
  obtain ⟨h3, h4⟩ := List.getElem?_eq_some_iff.1 hy
  have h5 := List.pairwise_iff_getElem.1 h j i h3 h1 hij
  exact h5 (by rw [h2, h4])
set_option maxHeartbeats 8000000 in
theorem ServerGrows_law (q : List (List (List UInt8))) (hq : q.length ≤ 9223372036854775807) (hq2 : ∀ l ∈ q, l.length ≤ 9223372036854775807) : ACalls Try.prog 3 [.sl .none (q.map lkA) q.length] ⟨[], [], 0⟩ (fun rv _ => rv = .bool true) := by
  refine ACalls_body Try.func3 rfl rfl ?_
  simp only [Try.ntmps3, List.length_cons, List.length_nil, Nat.reduceAdd, Nat.reduceSub, List.replicate_succ, List.replicate_zero, List.cons_append, List.nil_append]
  have h0 := anchor19_val
  by_cases g1 : 30 < q.length
  · refine Run ?_ trivial trivial trivial trivial trivial trivial trivial trivial trivial trivial trivial trivial
    rfl
  refine Run ?_ trivial trivial (⟨Try.func16, rfl, rfl⟩ : Inl Try.prog 16 _ _ _) trivial trivial trivial trivial trivial trivial trivial trivial trivial
  refine AWP_wkV 4 rfl (y := .sl .none [] 0) rfl (by simp only [setF]; rfl) ?_
  refine AWP_loopW [2, 4, 6, 7, 8, 9, 10, 12, 19, 20, 21, 22, 23, 24, 25, 26, 27, 28, 29, 30, 31, 32, 33, 34, 35, 36, 37, 38, 39, 40, 41, 42, 43, 44, 45, 46, 47, 48, 49, 50, 51, 52, 53, 54, 55, 56, 57, 58, 59, 60, 61, 62, 63, 64, 65, 66, 67, 68, 69, 70, 71, 72, 73, 74, 75, 76, 77, 78, 79, 80, 81, 82] (N := Nat × Int × Lg × List AV) (fun ⟨k, nx, L, js⟩ => [js.getD 0 .und, lkA (getL L (0, 1)), js.getD 1 .und, js.getD 2 .und, js.getD 3 .und, js.getD 4 .und, js.getD 5 .und, js.getD 6 .und, .sl .none (q.map lkA) q.length, .int .i64 (q.length : Int), .int .i64 (k : Int), js.getD 7 .und, js.getD 8 .und, js.getD 9 .und, js.getD 10 .und, js.getD 11 .und, js.getD 12 .und, js.getD 13 .und, js.getD 14 .und, js.getD 15 .und, js.getD 16 .und, js.getD 17 .und, js.getD 18 .und, js.getD 19 .und, js.getD 20 .und, js.getD 21 .und, js.getD 22 .und, js.getD 23 .und, js.getD 24 .und, js.getD 25 .und, js.getD 26 .und, js.getD 27 .und, js.getD 28 .und, js.getD 29 .und, js.getD 30 .und, js.getD 31 .und, js.getD 32 .und, js.getD 33 .und, js.getD 34 .und, js.getD 35 .und, js.getD 36 .und, js.getD 37 .und, js.getD 38 .und, js.getD 39 .und, js.getD 40 .und, js.getD 41 .und, js.getD 42 .und, js.getD 43 .und, js.getD 44 .und, js.getD 45 .und, js.getD 46 .und, js.getD 47 .und, js.getD 48 .und, js.getD 49 .und, js.getD 50 .und, js.getD 51 .und, js.getD 52 .und, js.getD 53 .und, js.getD 54 .und, js.getD 55 .und, js.getD 56 .und, js.getD 57 .und, js.getD 58 .und, js.getD 59 .und, js.getD 60 .und, js.getD 61 .und, js.getD 62 .und, js.getD 63 .und, js.getD 64 .und, js.getD 65 .und, js.getD 66 .und, js.getD 67 .und]) (fun ⟨k, nx, L, js⟩ => ⟨[(1, [.map 0])], [(0, mpT L)], nx⟩) (fun ⟨k, nx, L, js⟩ => 2 ≤ nx ∧ k ≤ q.length ∧ LgOk L ∧ (getL L (0, 1)).Nodup) (fun ⟨k, nx, L, js⟩ => q.length - k) ⟨0, 2, [], [_, _, _, _, _, _, _, _, _, _, _, _, _, _, _, _, _, _, _, _, _, _, _, _, _, _, _, _, _, _, _, _, _, _, _, _, _, _, _, _, _, _, _, _, _, _, _, _, _, _, _, _, _, _, _, _, _, _, _, _, _, _, _, _, _, _, _, _]⟩ rfl ?hs0 ?hi0 ?_
  rotate_left 2
  rintro ⟨k, nx, L, js⟩ sl_ hs hi
  simp only [setsF, setF, Option.some.injEq] at hs
  subst hs
  case hs0 => exact ASub.refl _
  case hi0 => exact ⟨by omega, by omega, LgOk.nil, by simp [getL]⟩
  obtain ⟨hnx, hk, ok, nd⟩ := hi
  by_cases hlt : k < q.length
  case neg =>
    obtain rfl : k = q.length := by omega
    refine Run ?_ trivial trivial trivial trivial trivial trivial trivial trivial trivial trivial trivial trivial
    rfl
  have hel : q[k]? = some q[k] := List.getElem?_eq_getElem hlt
  have hc : (q.map lkA)[k]? = some (lkA q[k]) := by rw [List.getElem?_map, hel]; rfl
  have hsz := hq2 q[k] (List.getElem_mem hlt)
  generalize q[k] = l at hel hc hsz
  have e1 := small19_val l hsz
  by_cases g2 : smLk l
  case neg =>
    rw [decide_eq_false g2] at e1
    refine Run ?_ trivial trivial trivial trivial trivial trivial trivial trivial trivial trivial trivial trivial
    rfl
  rw [decide_eq_true g2] at e1
  have e2 := pf_right l (by have := g2.1; omega)
  by_cases g3 : FrOk (pf 1 l)
  · rw [decide_eq_true g3] at e2
    have e3 := pf_bytes g3
    have e4 := nx_fact L ok l g3 1 0
    have ok2 := nxL_ok ok g3
    obtain ⟨⟨t, hp⟩, nd2⟩ := nxL_log (ls := l) nd
    generalize nxL L l = L2 at e4 ok2 hp nd2
    have hlen : (getL L (0, 1)).length ≤ (getL L2 (0, 1)).length := by rw [hp, List.length_append]; omega
    have hpre : (getL L2 (0, 1)).take (getL L (0, 1)).length = getL L (0, 1) := by rw [hp, List.take_left']; rfl
    clear hp
    have m2 := ok2.most (0, 1)
    have m1 := ok.most (0, 1)
    have e6 := log_sys L2 ok2 0 1 ⟨by omega, by omega⟩ ⟨by omega, by omega⟩ 1 0
    have e7 := same19_val (getL L (0, 1)) (getL L (0, 1)) (by omega)
    rw [show (getL L (0, 1) == getL L (0, 1)) = true by simp] at e7
    refine Run ?_ trivial trivial trivial trivial trivial trivial trivial trivial trivial trivial trivial trivial
    with_reducible apply S_sliceRows_h (ls := getL L2 (0, 1))
    case hx => rfl
    case hz => rfl
    case hN => rfl
    case hh => rfl
    case hlm => exact hlen
    case hs => exact aput_ok rfl
    rw [hpre]
    refine Run ?_ trivial trivial trivial trivial trivial trivial trivial trivial trivial trivial trivial trivial
    refine AWP_loopS [2, 9, 10, 12, 59, 60, 61, 62, 63, 64, 65, 66, 67, 68, 69, 70, 71, 72, 73, 74, 75, 76, 77, 78, 79, 80] (N := Nat × List AV) (fun ⟨i, js⟩ => [js.getD 0 .und, js.getD 1 .und, js.getD 2 .und, js.getD 3 .und, lkA (getL L2 (0, 1)), .int .i64 ((getL L2 (0, 1)).length : Int), .int .i64 (i : Int), js.getD 4 .und, js.getD 5 .und, js.getD 6 .und, js.getD 7 .und, js.getD 8 .und, js.getD 9 .und, js.getD 10 .und, js.getD 11 .und, js.getD 12 .und, js.getD 13 .und, js.getD 14 .und, js.getD 15 .und, js.getD 16 .und, js.getD 17 .und, js.getD 18 .und, js.getD 19 .und, js.getD 20 .und, js.getD 21 .und, js.getD 22 .und]) (fun ⟨i, js⟩ => ⟨[(nx, [.int .i64 1, .int .i64 1, .int .i64 0, lkA l, .nils]), (1, [.map 0])], [(0, mpT L2)], nx + 1⟩) (fun ⟨i, js⟩ => i ≤ (getL L2 (0, 1)).length) (fun ⟨i, js⟩ => (getL L2 (0, 1)).length - i) ⟨0, [_, _, _, _, _, _, _, _, _, _, _, _, _, _, _, _, _, _, _, _, _, _, _]⟩ rfl rfl ?hi0 ?_
    rotate_left
    rintro ⟨i, js⟩ sl_ hs hi
    simp only [setsF, setF, Option.some.injEq] at hs
    subst hs
    case hi0 => exact Nat.zero_le _
    by_cases hlt2 : i < (getL L2 (0, 1)).length
    · obtain ⟨x, hx⟩ : ∃ x, (getL L2 (0, 1))[i]? = some x := ⟨_, List.getElem?_eq_getElem hlt2⟩
      have hcx : ((getL L2 (0, 1)).map bsA)[i]? = some (bsA x) := by rw [List.getElem?_map, hx]; rfl
      refine Run ?_ trivial trivial trivial trivial trivial trivial trivial trivial trivial trivial trivial trivial
      with_reducible apply S_sliceRows_h (ls := getL L2 (0, 1))
      case hx => rfl
      case hz => rfl
      case hN => rfl
      case hh => rfl
      case hlm => exact hi
      case hs => exact aput_ok rfl
      have hpl : ((getL L2 (0, 1)).take i).length = i := by rw [List.length_take]; omega
      have hpn : ∀ (j : Nat) (y : List UInt8), ((getL L2 (0, 1)).take i)[j]? = some y → x ≠ y := by
        intro j y hy
        have hj : j < i := by
          have := (List.getElem?_eq_some_iff.1 hy).1
          omega
        rw [List.getElem?_take_of_lt hj] at hy
        exact nd_at nd2 hx hy hj
      generalize (getL L2 (0, 1)).take i = pre at hpl hpn ⊢
      refine Run ?_ trivial trivial trivial trivial trivial trivial trivial trivial trivial trivial trivial trivial
      refine AWP_loopS [2, 12, 68, 69, 70, 71, 72, 73, 74, 75, 76, 77, 78, 79] (N := Nat × List AV) (fun ⟨j, js⟩ => [js.getD 0 .und, js.getD 1 .und, lkA pre, .int .i64 (pre.length : Int), .int .i64 (j : Int), js.getD 2 .und, js.getD 3 .und, js.getD 4 .und, js.getD 5 .und, js.getD 6 .und, js.getD 7 .und, js.getD 8 .und, js.getD 9 .und, js.getD 10 .und]) (fun ⟨j, js⟩ => ⟨[(nx, [.int .i64 1, .int .i64 1, .int .i64 0, lkA l, .nils]), (1, [.map 0])], [(0, mpT L2)], nx + 1⟩) (fun ⟨j, js⟩ => j ≤ pre.length) (fun ⟨j, js⟩ => pre.length - j) ⟨0, [_, _, _, _, _, _, _, _, _, _, _]⟩ rfl rfl ?hi0 ?_
      rotate_left
      rintro ⟨j, js⟩ sl_ hs hi
      simp only [setsF, setF, Option.some.injEq] at hs
      subst hs
      case hi0 => exact Nat.zero_le _
      by_cases hlt3 : j < pre.length
      · obtain ⟨y, hy⟩ : ∃ y, pre[j]? = some y := ⟨_, List.getElem?_eq_getElem hlt3⟩
        have hcy : (pre.map bsA)[j]? = some (bsA y) := by rw [List.getElem?_map, hy]; rfl
        have hne : (x == y) = false := by simpa using hpn j y hy
        refine Run ?_ trivial trivial trivial trivial trivial trivial trivial trivial trivial trivial trivial trivial
        refine ALoopQ_normal ⟨j + 1, [_, _, _, _, _, _, _, _, _, _, _]⟩ rfl rfl ?hi1 ?hm1
        case hi1 => omega
        case hm1 => simp only; omega
      obtain rfl : j = pre.length := by omega
      refine Run ?_ trivial trivial trivial trivial trivial trivial trivial trivial trivial trivial trivial trivial
      refine ALoopQ_normal ⟨i + 1, [_, _, _, _, _, _, _, _, _, _, _, _, _, _, _, _, _, _, _, _, _, _, _]⟩ rfl rfl ?hi1 ?hm1
      case hi1 => omega
      case hm1 => simp only; omega
    obtain rfl : i = (getL L2 (0, 1)).length := by omega
    refine Run ?_ trivial trivial trivial trivial trivial trivial trivial trivial trivial trivial trivial trivial
    refine ALoopW_normal ⟨k + 1, nx + 1, L2, [_, _, _, _, _, _, _, _, _, _, _, _, _, _, _, _, _, _, _, _, _, _, _, _, _, _, _, _, _, _, _, _, _, _, _, _, _, _, _, _, _, _, _, _, _, _, _, _, _, _, _, _, _, _, _, _, _, _, _, _, _, _, _, _, _, _, _, _]⟩ rfl ?hs1 ?hi1 ?hm1
    case hs1 => exact (ASub.refl _).drop (by simp only [alook]; rw [if_neg (by omega)])
    case hi1 => exact ⟨by omega, by omega, ok2, nd2⟩
    case hm1 => simp only; omega
  · rw [decide_eq_false g3] at e2
    have ok2 := ok
    have nd2 := nd
    have hlen : (getL L (0, 1)).length ≤ (getL L (0, 1)).length := Nat.le_refl _
    have hpre : (getL L (0, 1)).take (getL L (0, 1)).length = getL L (0, 1) := List.take_length
    have m2 := ok2.most (0, 1)
    have m1 := ok.most (0, 1)
    have e6 := log_sys L ok2 0 1 ⟨by omega, by omega⟩ ⟨by omega, by omega⟩ 1 0
    have e7 := same19_val (getL L (0, 1)) (getL L (0, 1)) (by omega)
    rw [show (getL L (0, 1) == getL L (0, 1)) = true by simp] at e7
    refine Run ?_ trivial trivial trivial trivial trivial trivial trivial trivial trivial trivial trivial trivial
    with_reducible apply S_sliceRows_h (ls := getL L (0, 1))
    case hx => rfl
    case hz => rfl
    case hN => rfl
    case hh => rfl
    case hlm => exact hlen
    case hs => exact aput_ok rfl
    rw [hpre]
    refine Run ?_ trivial trivial trivial trivial trivial trivial trivial trivial trivial trivial trivial trivial
    refine AWP_loopS [2, 9, 10, 12, 59, 60, 61, 62, 63, 64, 65, 66, 67, 68, 69, 70, 71, 72, 73, 74, 75, 76, 77, 78, 79, 80] (N := Nat × List AV) (fun ⟨i, js⟩ => [js.getD 0 .und, js.getD 1 .und, js.getD 2 .und, js.getD 3 .und, lkA (getL L (0, 1)), .int .i64 ((getL L (0, 1)).length : Int), .int .i64 (i : Int), js.getD 4 .und, js.getD 5 .und, js.getD 6 .und, js.getD 7 .und, js.getD 8 .und, js.getD 9 .und, js.getD 10 .und, js.getD 11 .und, js.getD 12 .und, js.getD 13 .und, js.getD 14 .und, js.getD 15 .und, js.getD 16 .und, js.getD 17 .und, js.getD 18 .und, js.getD 19 .und, js.getD 20 .und, js.getD 21 .und, js.getD 22 .und]) (fun ⟨i, js⟩ => ⟨[(nx, [.int .i64 1, .int .i64 1, .int .i64 0, lkA l, .nils]), (1, [.map 0])], [(0, mpT L)], nx + 1⟩) (fun ⟨i, js⟩ => i ≤ (getL L (0, 1)).length) (fun ⟨i, js⟩ => (getL L (0, 1)).length - i) ⟨0, [_, _, _, _, _, _, _, _, _, _, _, _, _, _, _, _, _, _, _, _, _, _, _]⟩ rfl rfl ?hi0 ?_
    rotate_left
    rintro ⟨i, js⟩ sl_ hs hi
    simp only [setsF, setF, Option.some.injEq] at hs
    subst hs
    case hi0 => exact Nat.zero_le _
    by_cases hlt2 : i < (getL L (0, 1)).length
    · obtain ⟨x, hx⟩ : ∃ x, (getL L (0, 1))[i]? = some x := ⟨_, List.getElem?_eq_getElem hlt2⟩
      have hcx : ((getL L (0, 1)).map bsA)[i]? = some (bsA x) := by rw [List.getElem?_map, hx]; rfl
      refine Run ?_ trivial trivial trivial trivial trivial trivial trivial trivial trivial trivial trivial trivial
      with_reducible apply S_sliceRows_h (ls := getL L (0, 1))
      case hx => rfl
      case hz => rfl
      case hN => rfl
      case hh => rfl
      case hlm => exact hi
      case hs => exact aput_ok rfl
      have hpl : ((getL L (0, 1)).take i).length = i := by rw [List.length_take]; omega
      have hpn : ∀ (j : Nat) (y : List UInt8), ((getL L (0, 1)).take i)[j]? = some y → x ≠ y := by
        intro j y hy
        have hj : j < i := by
          have := (List.getElem?_eq_some_iff.1 hy).1
          omega
        rw [List.getElem?_take_of_lt hj] at hy
        exact nd_at nd2 hx hy hj
      generalize (getL L (0, 1)).take i = pre at hpl hpn ⊢
      refine Run ?_ trivial trivial trivial trivial trivial trivial trivial trivial trivial trivial trivial trivial
      refine AWP_loopS [2, 12, 68, 69, 70, 71, 72, 73, 74, 75, 76, 77, 78, 79] (N := Nat × List AV) (fun ⟨j, js⟩ => [js.getD 0 .und, js.getD 1 .und, lkA pre, .int .i64 (pre.length : Int), .int .i64 (j : Int), js.getD 2 .und, js.getD 3 .und, js.getD 4 .und, js.getD 5 .und, js.getD 6 .und, js.getD 7 .und, js.getD 8 .und, js.getD 9 .und, js.getD 10 .und]) (fun ⟨j, js⟩ => ⟨[(nx, [.int .i64 1, .int .i64 1, .int .i64 0, lkA l, .nils]), (1, [.map 0])], [(0, mpT L)], nx + 1⟩) (fun ⟨j, js⟩ => j ≤ pre.length) (fun ⟨j, js⟩ => pre.length - j) ⟨0, [_, _, _, _, _, _, _, _, _, _, _]⟩ rfl rfl ?hi0 ?_
      rotate_left
      rintro ⟨j, js⟩ sl_ hs hi
      simp only [setsF, setF, Option.some.injEq] at hs
      subst hs
      case hi0 => exact Nat.zero_le _
      by_cases hlt3 : j < pre.length
      · obtain ⟨y, hy⟩ : ∃ y, pre[j]? = some y := ⟨_, List.getElem?_eq_getElem hlt3⟩
        have hcy : (pre.map bsA)[j]? = some (bsA y) := by rw [List.getElem?_map, hy]; rfl
        have hne : (x == y) = false := by simpa using hpn j y hy
        refine Run ?_ trivial trivial trivial trivial trivial trivial trivial trivial trivial trivial trivial trivial
        refine ALoopQ_normal ⟨j + 1, [_, _, _, _, _, _, _, _, _, _, _]⟩ rfl rfl ?hi1 ?hm1
        case hi1 => omega
        case hm1 => simp only; omega
      obtain rfl : j = pre.length := by omega
      refine Run ?_ trivial trivial trivial trivial trivial trivial trivial trivial trivial trivial trivial trivial
      refine ALoopQ_normal ⟨i + 1, [_, _, _, _, _, _, _, _, _, _, _, _, _, _, _, _, _, _, _, _, _, _, _]⟩ rfl rfl ?hi1 ?hm1
      case hi1 => omega
      case hm1 => simp only; omega
    obtain rfl : i = (getL L (0, 1)).length := by omega
    refine Run ?_ trivial trivial trivial trivial trivial trivial trivial trivial trivial trivial trivial trivial
    refine ALoopW_normal ⟨k + 1, nx + 1, L, [_, _, _, _, _, _, _, _, _, _, _, _, _, _, _, _, _, _, _, _, _, _, _, _, _, _, _, _, _, _, _, _, _, _, _, _, _, _, _, _, _, _, _, _, _, _, _, _, _, _, _, _, _, _, _, _, _, _, _, _, _, _, _, _, _, _, _, _]⟩ rfl ?hs1 ?hi1 ?hm1
    case hs1 => exact (ASub.refl _).drop (by simp only [alook]; rw [if_neg (by omega)])
    case hi1 => exact ⟨by omega, by omega, ok2, nd2⟩
    case hm1 => simp only; omega
theorem open_rows3 : Opens Try.prog 22 (RSlice 1 (RSlice 1 RBytes)) := opens_slice Try.underlying22 (by kernel_rfl) (by omega) open_links
theorem ServerGrows_walk (w : World) (A : Option Addr) (n c : Nat) (l : List (List (List UInt8))) (hl : RSlice 1 (RSlice 1 RBytes) w [.slice A n c] l) : Calls Try.prog 3 #[.slice A n c] w (Tells w true) := by
  obtain ⟨h1, h2, h3⟩ := RSlice.repsA1 lkA (fun h => (RLinks.repsA h).1) hl
  exact (ServerGrows_law l h2 (fun m hm => by obtain ⟨v, hv⟩ := h3 m hm; exact (RLinks.repsA hv).2)).tells (.one h1)
end Go.Proofs.Ytnjkklkjlloedaa
