/- Law 11: DocsOthers. -/
import Derived.Test.YtnjkklkjlloedaaDcF
namespace Go.Proofs.Ytnjkklkjlloedaa
open Go.RowKit
set_option linter.unusedVariables false
set_option linter.unusedSimpArgs false
set_option maxRecDepth 10000
set_option maxHeartbeats 20000000 in
theorem DocsOthers_law (l : List En) (e : En) (hm : l.length ≤ 9223372036854775807) (hl : ∀ e ∈ l, e.wraps.length ≤ 9223372036854775807) (he : e.wraps.length ≤ 9223372036854775807) : ACalls Try.prog 8 [ensA l, enA e] ⟨[], [], 0⟩ (fun rv _ => rv = .bool true) := by
  refine ACalls_body Try.func8 rfl rfl ?_
  simp only [Try.ntmps8, List.length_cons, List.length_nil, Nat.reduceAdd, Nat.reduceSub, List.replicate_succ, List.replicate_zero, List.cons_append, List.nil_append]
  have hS0 := smallE_val e he
  have ha := anchor11_val
  by_cases hbig : 20 < l.length
  · refine RunB ?_ trivial trivial trivial trivial trivial trivial trivial trivial trivial trivial trivial trivial
    rfl
  by_cases hs : SmallE e
  case neg =>
    rw [decide_eq_false hs] at hS0
    refine RunB ?_ trivial trivial trivial trivial trivial trivial trivial trivial trivial trivial trivial trivial
    rfl
  rw [decide_eq_true hs] at hS0
  have hr := enright_val e hs.mid
  by_cases hok : EnOk e
  case neg =>
    rw [decide_eq_false hok] at hr
    refine RunB ?_ trivial trivial trivial trivial trivial trivial trivial trivial trivial trivial trivial trivial
    rfl
  rw [decide_eq_true hok] at hr
  by_cases hk : e.kind < 3
  · refine RunB ?_ trivial trivial trivial trivial trivial trivial trivial trivial trivial trivial trivial trivial
    rfl
  refine RunB ?_ trivial trivial (⟨Try.func29, rfl, rfl⟩ : Inl Try.prog 29 _ _ _) trivial trivial trivial trivial trivial trivial trivial trivial trivial
  refine AWP_loopW [4, 7, 32, 33, 34, 35, 36, 37, 38, 39, 40, 41, 42] (N := Nat × Int × Dm × List AV) (fun ⟨k, nx, D, js⟩ => [js.getD 0 .und, js.getD 1 .und, .int .i64 (k : Int), js.getD 2 .und, js.getD 3 .und, js.getD 4 .und, js.getD 5 .und, js.getD 6 .und, js.getD 7 .und, js.getD 8 .und, js.getD 9 .und, js.getD 10 .und, js.getD 11 .und]) (fun ⟨k, nx, D, js⟩ => ⟨[(2, [.map 1]), (0, enC e)], [(1, mpD D)], nx⟩) (fun ⟨k, nx, D, js⟩ => k ≤ l.length ∧ DmOk D ∧ DmLen D ∧ D.length ≤ k ∧ 3 ≤ nx) (fun ⟨k, nx, D, js⟩ => l.length - k) ⟨0, 3, [], [_, _, _, _, _, _, _, _, _, _, _, _]⟩ rfl ?hs0 ?hi0 ?_
  rotate_left 2
  rintro ⟨k, nx, D, js⟩ sl_ hs hi
  simp only [setsF, setF, Option.some.injEq] at hs
  subst hs
  case hs0 => exact ASub.refl _
  case hi0 => exact ⟨by omega, DmOk.nil, DmLen.nil, by simp, by omega⟩
  obtain ⟨hkl, okD, lenD, hDk, hnx⟩ := hi
  by_cases hlt : k < l.length
  · have hel : l[k]? = some l[k] := List.getElem?_eq_getElem hlt
    have hcl := enCs_load hel
    have hwl := hl _ (List.getElem_mem hlt)
    clear hS0 hr
    generalize l[k] = x at hel hcl hwl
    have hS := smallE_val x hwl
    by_cases hsm : SmallE x
    case neg =>
      rw [decide_eq_false hsm] at hS
      refine RunB ?_ trivial trivial trivial trivial trivial trivial trivial trivial trivial trivial trivial trivial
      rfl
    rw [decide_eq_true hsm] at hS
    have q := dapply_sys D okD x hsm.mid 2 1
    refine RunB ?_ trivial trivial trivial trivial trivial trivial trivial trivial trivial @wpCs_wk trivial trivial
    refine ALoopW_normal ⟨k + 1, nx + 1, dapD D x, [_, _, _, _, _, _, _, _, _, _, _, _]⟩ rfl ?hs1 ?hi1 ?hm1
    case hs1 => exact (ASub.refl _).drop (by simp only [alook]; repeat (first | rw [if_neg (by omega)]))
    case hi1 => exact ⟨by omega, okD.app x, lenD.app (by have := hsm.2.1; omega) (by have := hsm.2.2.1; omega), by have := dap_len D x; show (dapD D x).length ≤ k + 1; omega, by show (3 : Int) ≤ nx + 1; omega⟩
    case hm1 => simp only; omega
  obtain rfl : k = l.length := by omega
  have q := dapply_sys D okD e hs.mid 2 1
  rw [(dap_other hok (by omega)).1, (dap_other hok (by omega)).2] at q
  have a1 := dall_sys D okD (by omega) 2 1
  have a2 := madeD_val D (by omega)
  have a3 := refSame11_val D D lenD lenD (by omega) (by omega)
  rw [decide_eq_true rfl] at a3
  refine RunB ?_ trivial trivial trivial trivial trivial trivial trivial trivial trivial @wpCs_wk trivial trivial
  rfl
theorem DocsOthers_walk (w : World) (A : Option Addr) (n c : Nat) (l : List En) (hl : RSlice 9 REn w [.slice A n c] l) (cs : Array Value) (e : En) (he : REn w cs.toList e) : Calls Try.prog 8 #[.slice A n c, .agg cs] w (Tells w true) := by
  obtain ⟨h1, h2, h3⟩ := REntries.repsA hl
  exact (DocsOthers_law l e h2 h3 he.wraps).tells (.cons h1 (.one he.agg))
end Go.Proofs.Ytnjkklkjlloedaa
