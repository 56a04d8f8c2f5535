/- chain: Append over a real suite. -/
import Derived.Test.YthpigmkdchnnoaaChI
namespace Go.Proofs.Ythpigmkdchnnoaa
open Go.RowKit
set_option linter.unusedVariables false
set_option linter.unusedSimpArgs false
set_option maxRecDepth 10000
theorem appendR_no (ls ss : List (List UInt8)) (x : List UInt8) (hx : x.length < 1) (c s a b : Int) : ASys Try.prog 15 [.ptr c 0, bsA x] (.int .i64 11)
    [(c, chC ls ss s a b, chC ls ss s a b), (s, srC, srC)] [(a, lnT ls, lnT ls), (b, lnT ss, lnT ss)] := by
  refine RlSys.mk (by simp only [AV.shutL, bsA_shut, Bool.and_self]) (by simp [AV.shut]) ?_
  refine ACalls_body Try.func15 rfl rfl ?_
  simp only [Try.ntmps15, List.length_cons, List.length_nil, Nat.reduceAdd, Nat.reduceSub, List.replicate_succ, List.replicate_zero, List.cons_append, List.nil_append]
  refine RunB ?_ trivial trivial trivial trivial trivial trivial trivial trivial trivial trivial trivial trivial
  exact ⟨rfl, by show (4 : Int) ≤ 4; omega, rfl, rfl, rfl, rfl⟩
set_option maxHeartbeats 20000000 in
theorem appendR_ok (ls ss : List (List UInt8)) (x : List UInt8) (hl : ss.length = ls.length + 1) (hs : ∀ y ∈ ss, y.length = 32) (h0 : 1 ≤ x.length) (h1 : x.length ≤ 4096) (h2 : ls.length < 64) (c s a b : Int) : ASys Try.prog 15 [.ptr c 0, bsA x] (.int .i64 0)
    [(c, chC ls ss s a b, chC (ls ++ [x]) (ss ++ [sumB (ss.getD ls.length [] ++ x)]) s a b), (s, srC, srC)] [(a, lnT ls, lnT (ls ++ [x])), (b, lnT ss, lnT (ss ++ [sumB (ss.getD ls.length [] ++ x)]))] := by
  refine RlSys.mk (by simp only [AV.shutL, bsA_shut, Bool.and_self]) (by simp [AV.shut]) ?_
  refine ACalls_body Try.func15 rfl rfl ?_
  simp only [Try.ntmps15, List.length_cons, List.length_nil, Nat.reduceAdd, Nat.reduceSub, List.replicate_succ, List.replicate_zero, List.cons_append, List.nil_append]
  have g0 : ¬ x.length < 1 := by omega
  have g1 : ¬ 4096 < x.length := by omega
  have g2 : ¬ ls.length = 64 := by omega
  have g3 : ls.length ≤ 64 := by omega
  have hlt : ls.length < ss.length := by omega
  obtain ⟨y, hy⟩ : ∃ y, ss[ls.length]? = some y := ⟨_, List.getElem?_eq_getElem hlt⟩
  have hy32 := hs y (List.mem_of_getElem? hy)
  have hc : (ss.map bsA)[ls.length]? = some (bsA y) := by rw [List.getElem?_map, hy]; rfl
  have e1 := sumR_sys [y, x] (y ++ x) (by simp) (by rw [List.length_append]; omega) 1
  simp only [lkA, List.map_cons, List.map_nil, List.length_cons, List.length_nil, Nat.zero_add, Nat.reduceAdd] at e1
  have e2 := clone1_val x (by omega) (by omega)
  rw [List.getD_eq_getElem?_getD, hy, Option.getD_some]
  generalize sumB (y ++ x) = z at e1 ⊢
  clear h0 h1 h2
  refine RunB ?_ trivial trivial trivial trivial trivial trivial trivial trivial trivial trivial trivial trivial
  refine ⟨rfl, by show (4 : Int) ≤ 4; omega, ?_, rfl, ?_, ?_⟩
  · show some _ = some _
    simp only [chC, List.map_append, List.map_cons, List.map_nil, List.length_append, List.length_cons, List.length_nil, Nat.zero_add]
  · show some _ = some _
    simp only [lnT, List.length_append, List.length_cons, List.length_nil, Nat.zero_add]
  · show some _ = some _
    simp only [lnT, List.length_append, List.length_cons, List.length_nil, Nat.zero_add]
end Go.Proofs.Ythpigmkdchnnoaa
