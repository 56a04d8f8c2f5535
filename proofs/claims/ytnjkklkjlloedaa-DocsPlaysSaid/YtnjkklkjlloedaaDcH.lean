/- Law 11: DocsPlays. -/
import Derived.Test.YtnjkklkjlloedaaDcF
import Derived.Test.YtnjkklkjlloedaaRfE2
import Derived.Test.YtnjkklkjlloedaaScp
namespace Go.Proofs.Ytnjkklkjlloedaa
open Go.RowKit
set_option linter.unusedVariables false
set_option linter.unusedSimpArgs false
set_option maxRecDepth 10000
theorem refApply11_val (D : Dm) (hD : DmOk D) (hl : DmLen D) (hn : D.length ≤ 1000) (e : En) (h : EnOk e) : AVal Try.prog 36 [dcR D, enA e] (.tup [dcR (dapD D e), .int .i64 (dapE D e)]) := by
  obtain ⟨k1, k2, _, _, _, _, _, h8, _⟩ := id h
  by_cases a : e.kind = 1
  · obtain ⟨n1, n2, n3⟩ := h8 (by omega)
    rw [(dap_put h a).1, (dap_put h a).2]
    exact refApply11_put D hD hl hn e a (by omega)
  · by_cases b : e.kind = 2
    · obtain ⟨n1, n2, n3⟩ := h8 (by omega)
      rw [(dap_drop h b).1, (dap_drop h b).2]
      exact refApply11_drop D hD hl hn e b (by omega)
    · rw [(dap_other h (by omega)).1, (dap_other h (by omega)).2]
      exact refApply11_other D e (by omega)
set_option maxHeartbeats 20000000 in
theorem DocsPlays_law (l : List En) (nm : Nm) (hm : l.length ≤ 9223372036854775807) (hl : ∀ e ∈ l, e.wraps.length ≤ 9223372036854775807) (hnm : nm.length ≤ 9223372036854775807) : ACalls Try.prog 9 [ensA l, bsA nm] ⟨[], [], 0⟩ (fun rv _ => rv = .bool true) := by
  refine ACalls_body Try.func9 rfl rfl ?_
  simp only [Try.ntmps9, List.length_cons, List.length_nil, Nat.reduceAdd, Nat.reduceSub, List.replicate_succ, List.replicate_zero, List.cons_append, List.nil_append]
  have ha := anchor11_val
  by_cases hbig : 40 < l.length
  · refine RunB ?_ trivial trivial trivial trivial trivial trivial trivial trivial trivial trivial trivial trivial
    rfl
  by_cases hbn : 100 < nm.length
  · refine RunB ?_ trivial trivial trivial trivial trivial trivial trivial trivial trivial trivial trivial trivial
    rfl
  refine RunB ?_ trivial trivial (⟨Try.func29, rfl, rfl⟩ : Inl Try.prog 29 _ _ _) trivial trivial trivial trivial trivial trivial trivial trivial trivial
  refine AWP_wkV 6 rfl (y := dcR []) rfl (by simp only [setF]; rfl) ?_
  refine AWP_loopW [4, 6, 8, 9, 10, 11, 12, 13, 14, 28, 29, 30, 31, 32, 33, 34, 35, 36, 37, 38, 39, 40, 41, 42, 43, 44, 45, 46, 47, 48, 49, 50, 51, 52, 53, 54, 55, 56, 57, 58, 59, 60, 61, 62, 63, 64, 65, 66, 67, 68, 69, 70, 71, 72, 73, 74, 75, 76, 77, 78, 79, 80, 81, 82, 83, 84, 85, 86, 87, 88, 89, 90, 91, 92, 93, 94, 95, 96, 97, 98, 99, 100, 101, 102, 103, 104, 105] (N := Nat × Int × Dm × List AV) (fun ⟨k, nx, D, js⟩ => [js.getD 0 .und, dcR D, js.getD 1 .und, js.getD 2 .und, js.getD 3 .und, js.getD 4 .und, js.getD 5 .und, js.getD 6 .und, js.getD 7 .und, .int .i64 (k : Int), js.getD 8 .und, js.getD 9 .und, js.getD 10 .und, js.getD 11 .und, js.getD 12 .und, js.getD 13 .und, js.getD 14 .und, js.getD 15 .und, js.getD 16 .und, js.getD 17 .und, js.getD 18 .und, js.getD 19 .und, js.getD 20 .und, js.getD 21 .und, js.getD 22 .und, js.getD 23 .und, js.getD 24 .und, js.getD 25 .und, js.getD 26 .und, js.getD 27 .und, js.getD 28 .und, js.getD 29 .und, js.getD 30 .und, js.getD 31 .und, js.getD 32 .und, js.getD 33 .und, js.getD 34 .und, js.getD 35 .und, js.getD 36 .und, js.getD 37 .und, js.getD 38 .und, js.getD 39 .und, js.getD 40 .und, js.getD 41 .und, js.getD 42 .und, js.getD 43 .und, js.getD 44 .und, js.getD 45 .und, js.getD 46 .und, js.getD 47 .und, js.getD 48 .und, js.getD 49 .und, js.getD 50 .und, js.getD 51 .und, js.getD 52 .und, js.getD 53 .und, js.getD 54 .und, js.getD 55 .und, js.getD 56 .und, js.getD 57 .und, js.getD 58 .und, js.getD 59 .und, js.getD 60 .und, js.getD 61 .und, js.getD 62 .und, js.getD 63 .und, js.getD 64 .und, js.getD 65 .und, js.getD 66 .und, js.getD 67 .und, js.getD 68 .und, js.getD 69 .und, js.getD 70 .und, js.getD 71 .und, js.getD 72 .und, js.getD 73 .und, js.getD 74 .und, js.getD 75 .und, js.getD 76 .und, js.getD 77 .und, js.getD 78 .und, js.getD 79 .und, js.getD 80 .und, js.getD 81 .und, js.getD 82 .und, js.getD 83 .und, js.getD 84 .und]) (fun ⟨k, nx, D, js⟩ => ⟨[(1, [.map 0])], [(0, mpD D)], nx⟩) (fun ⟨k, nx, D, js⟩ => k ≤ l.length ∧ DmOk D ∧ DmLen D ∧ D.length ≤ k ∧ 2 ≤ nx) (fun ⟨k, nx, D, js⟩ => l.length - k) ⟨0, 2, [], [_, _, _, _, _, _, _, _, _, _, _, _, _, _, _, _, _, _, _, _, _, _, _, _, _, _, _, _, _, _, _, _, _, _, _, _, _, _, _, _, _, _, _, _, _, _, _, _, _, _, _, _, _, _, _, _, _, _, _, _, _, _, _, _, _, _, _, _, _, _, _, _, _, _, _, _, _, _, _, _, _, _, _, _, _]⟩ rfl ?hs0 ?hi0 ?_
  rotate_left 2
  rintro ⟨k, nx, D, js⟩ sl_ hs hi
  simp only [setsF, setF, Option.some.injEq] at hs
  subst hs
  case hs0 => exact ASub.refl _
  case hi0 => exact ⟨by omega, DmOk.nil, DmLen.nil, by simp, by omega⟩
  obtain ⟨hkl, okD, lenD, hDk, hnx⟩ := hi
  by_cases hlt : k < l.length
  case neg =>
    obtain rfl : k = l.length := by omega
    refine RunB ?_ trivial trivial trivial trivial trivial trivial trivial trivial trivial trivial trivial trivial
    rfl
  have hel : l[k]? = some l[k] := List.getElem?_eq_getElem hlt
  have hcl := enCs_load hel
  have hwl := hl _ (List.getElem_mem hlt)
  generalize l[k] = x at hel hcl hwl
  have hS := smallE_val x hwl
  by_cases hsm : SmallE x
  case neg =>
    rw [decide_eq_false hsm] at hS
    refine RunB ?_ trivial trivial trivial trivial trivial trivial trivial trivial trivial trivial trivial trivial
    rfl
  rw [decide_eq_true hsm] at hS
  have hw20 : x.wraps.length ≤ 1000 := by have := hsm.2.2.2; omega
  have hE := madeE_val x hw20
  have hR := refRight_val x (by omega)
  have q := dapply_sys D okD x hsm.mid 1 0
  by_cases hok : EnOk x
  case neg =>
    rw [decide_eq_false hok] at hR
    rw [(dap_bad hok).1, (dap_bad hok).2] at q
    refine RunB ?_ trivial trivial trivial trivial trivial trivial trivial trivial trivial @wpCs_wk trivial trivial
    refine ALoopW_normal ⟨k + 1, nx + 1 + 1, D, [_, _, _, _, _, _, _, _, _, _, _, _, _, _, _, _, _, _, _, _, _, _, _, _, _, _, _, _, _, _, _, _, _, _, _, _, _, _, _, _, _, _, _, _, _, _, _, _, _, _, _, _, _, _, _, _, _, _, _, _, _, _, _, _, _, _, _, _, _, _, _, _, _, _, _, _, _, _, _, _, _, _, _, _, _]⟩ rfl ?hs1 ?hi1 ?hm1
    case hs1 =>
      refine ASub.drop (ASub.drop (ASub.refl _) ?_) ?_
      all_goals (simp only [alook]; repeat (first | rw [if_neg (by omega)]))
    case hi1 => exact ⟨by omega, okD, lenD, by show D.length ≤ k + 1; omega, by show (2 : Int) ≤ nx + 1 + 1; omega⟩
    case hm1 => simp only; omega
  rw [decide_eq_true hok] at hR
  have hA := refApply11_val D okD lenD (by omega) x hok
  have okD2 := okD.app x
  have lenD2 := lenD.app (e := x) (by have := hsm.2.1; omega) (by have := hsm.2.2.1; omega)
  have hl2 : (dapD D x).length ≤ k + 1 := by have := dap_len D x; omega
  generalize dapD D x = D2 at q hA okD2 lenD2 hl2
  generalize dapE D x = er at q hA
  have a1 := dall_sys D2 okD2 (by omega) 1 0
  have a2 := madeD_val D2 (by omega)
  have a3 := refSame11_val D2 D2 lenD2 lenD2 (by omega) (by omega)
  rw [decide_eq_true rfl] at a3
  have a4 := dlen_sys D2 1 0
  have a5 := dget_sys D2 okD2 nm hnm 1 0
  rcases dm_cases okD2 nm with ⟨c1, c2, _⟩ | ⟨l1, w, l2, c1, c2, _⟩
  · have a6 := refGet11_no D2 lenD2 (by omega) (by omega) c1
    rw [c2] at a5
    simp only [Option.getD_none, Option.isSome_none] at a5
    refine RunB ?_ trivial trivial trivial trivial trivial trivial trivial trivial trivial @wpCs_wk trivial trivial
    refine ALoopW_normal ⟨k + 1, nx + 1 + 1, D2, [_, _, _, _, _, _, _, _, _, _, _, _, _, _, _, _, _, _, _, _, _, _, _, _, _, _, _, _, _, _, _, _, _, _, _, _, _, _, _, _, _, _, _, _, _, _, _, _, _, _, _, _, _, _, _, _, _, _, _, _, _, _, _, _, _, _, _, _, _, _, _, _, _, _, _, _, _, _, _, _, _, _, _, _, _]⟩ rfl ?hs1 ?hi1 ?hm1
    case hs1 =>
      refine ASub.drop (ASub.drop (ASub.refl _) ?_) ?_
      all_goals (simp only [alook]; repeat (first | rw [if_neg (by omega)]))
    case hi1 => exact ⟨by omega, okD2, lenD2, hl2, by show (2 : Int) ≤ nx + 1 + 1; omega⟩
    case hm1 => simp only; omega
  · obtain ⟨i, hi⟩ : ∃ i, D2[i]? = some (nm, w) := List.getElem?_of_mem (by rw [c1]; simp)
    have a6 := refGet11_yes D2 okD2 lenD2 (by omega) hi
    have f1 := dcC_val hi
    have hw := (lenD2 _ (List.mem_of_getElem? hi)).2
    rw [c2] at a5
    simp only [Option.getD_some, Option.isSome_some] at a5
    have hil := (List.getElem?_eq_some_iff.1 hi).1
    clear c1 c2
    refine RunB ?_ trivial trivial trivial trivial trivial trivial trivial trivial trivial @wpCs_wk trivial trivial
    refine ALoopW_normal ⟨k + 1, nx + 1 + 1, D2, [_, _, _, _, _, _, _, _, _, _, _, _, _, _, _, _, _, _, _, _, _, _, _, _, _, _, _, _, _, _, _, _, _, _, _, _, _, _, _, _, _, _, _, _, _, _, _, _, _, _, _, _, _, _, _, _, _, _, _, _, _, _, _, _, _, _, _, _, _, _, _, _, _, _, _, _, _, _, _, _, _, _, _, _, _]⟩ rfl ?hs1 ?hi1 ?hm1
    case hs1 =>
      refine ASub.drop (ASub.drop (ASub.refl _) ?_) ?_
      all_goals (simp only [alook]; repeat (first | rw [if_neg (by omega)]))
    case hi1 => exact ⟨by omega, okD2, lenD2, hl2, by show (2 : Int) ≤ nx + 1 + 1; omega⟩
    case hm1 => simp only; omega
theorem DocsPlays_walk (w : World) (A : Option Addr) (n c : Nat) (l : List En) (hl : RSlice 9 REn w [.slice A n c] l) (A2 : Option Addr) (n2 c2 : Nat) (nm : Nm) (hn : RBytes w [.slice A2 n2 c2] nm) : Calls Try.prog 9 #[.slice A n c, .slice A2 n2 c2] w (Tells w true) := by
  obtain ⟨h1, h2, h3⟩ := REntries.repsA hl
  exact (DocsPlays_law l nm h2 h3 (RBytes.len hn)).tells (.cons h1 (RBytes.one hn))
end Go.Proofs.Ytnjkklkjlloedaa
