/- chain: Append, by the abstract machine. -/
import Derived.Test.YthpigmkdchnnoaaChA
namespace Go.Proofs.Ythpigmkdchnnoaa
open Go.RowKit
set_option linter.unusedVariables false
set_option linter.unusedSimpArgs false
set_option maxRecDepth 10000
set_option maxHeartbeats 20000000 in
theorem append_sys (ls ss xs : List (List UInt8)) (x : List UInt8) (h : ChOk ls ss xs) (hx : x.length ≤ 1000000) (c s a b l m : Int) : ASys Try.prog 15 [.ptr c 0, bsA x] (.int .i64 (apE ls x))
    [(c, chC ls ss s a b, chC (apL ls x) (apS ls ss xs x) s a b), (s, suX xs l m, suX (apX ls ss xs x) l m)] [(a, lnT ls, lnT (apL ls x)), (b, lnT ss, lnT (apS ls ss xs x)), (l, suL xs, suL (apX ls ss xs x)), (m, suM xs, suM (apX ls ss xs x))] := by
  refine ChSys.mk (by simp only [AV.shutL, bsA_shut, Bool.and_self]) (by simp [AV.shut]) ?_
  refine ACalls_body Try.func15 rfl rfl ?_
  simp only [Try.ntmps15, List.length_cons, List.length_nil, Nat.reduceAdd, Nat.reduceSub, List.replicate_succ, List.replicate_zero, List.cons_append, List.nil_append]
  obtain ⟨hlen, hsum, hmost, _, hfew⟩ := h
  unfold apL apS apX apE
  by_cases h0 : x.length < 1
  · rw [if_pos (.inl h0)]
    refine RunB ?_ trivial trivial trivial trivial trivial trivial trivial trivial trivial trivial trivial trivial
    exact ⟨rfl, by show (6 : Int) ≤ 6; omega, rfl, rfl, rfl, rfl, rfl, rfl⟩
  by_cases h1 : 4096 < x.length
  · rw [if_pos (.inr h1)]
    refine RunB ?_ trivial trivial trivial trivial trivial trivial trivial trivial trivial trivial trivial trivial
    exact ⟨rfl, by show (6 : Int) ≤ 6; omega, rfl, rfl, rfl, rfl, rfl, rfl⟩
  rw [if_neg (by omega)]
  by_cases h2 : ls.length = 64
  · rw [if_pos h2]
    refine RunB ?_ trivial trivial trivial trivial trivial trivial trivial trivial trivial trivial trivial trivial
    exact ⟨rfl, by show (6 : Int) ≤ 6; omega, rfl, rfl, rfl, rfl, rfl, rfl⟩
  · rw [if_neg h2]
    simp only [if_true]
    have hlt : ls.length < ss.length := by omega
    obtain ⟨y, hy⟩ : ∃ y, ss[ls.length]? = some y := ⟨_, List.getElem?_eq_getElem hlt⟩
    have hy32 := hsum y (List.mem_of_getElem? hy)
    have hT : apT ls ss x = y ++ x := by unfold apT; rw [List.getD_eq_getElem?_getD, hy]; rfl
    have hc : (ss.map bsA)[ls.length]? = some (bsA y) := by rw [List.getElem?_map, hy]; rfl
    have e1 := sum_sys [y, x] (y ++ x) (by simp) xs hfew (by simp) (by intro l hl; simp at hl; rcases hl with rfl | rfl <;> omega) 1 4 5
    simp only [lkA, List.map_cons, List.map_nil, List.length_cons, List.length_nil, Nat.zero_add, Nat.reduceAdd] at e1
    have e2 := clone1_val x (by omega) hx
    rw [hT]
    refine RunB ?_ trivial trivial trivial trivial trivial trivial trivial trivial trivial trivial trivial trivial
    refine ⟨rfl, by show (6 : Int) ≤ 6; omega, ?_, rfl, ?_, ?_, rfl, rfl⟩
    · show some _ = some _
      simp only [chC, List.map_append, List.map_cons, List.map_nil, List.length_append, List.length_cons, List.length_nil, Nat.zero_add]
    · show some _ = some _
      simp only [lnT, List.length_append, List.length_cons, List.length_nil, Nat.zero_add]
    · show some _ = some _
      simp only [lnT, List.length_append, List.length_cons, List.length_nil, Nat.zero_add]
end Go.Proofs.Ythpigmkdchnnoaa
