/- chain: Append of bytes that may be written. -/
import Derived.Test.YthpigmkdchnnoaaChV
namespace Go.Proofs.Ythpigmkdchnnoaa
open Go.RowKit
set_option linter.unusedVariables false
set_option linter.unusedSimpArgs false
set_option maxRecDepth 10000
set_option maxHeartbeats 20000000 in
theorem appendB_sys (ls ss xs : List (List UInt8)) (x : List UInt8) (j : Nat) (h : ChOk ls ss xs) (hx : x.length ≤ 4096) (hx0 : 1 ≤ x.length) (h64 : ls.length ≠ 64) (c s X a b l m : Int) : ASys Try.prog 15 [.ptr c 0, .buf X 0 x.length (x.length + j)] (.int .i64 0)
    [(c, chC ls ss s a b, chC (ls ++ [x]) (ss ++ [signB 72 (sumN xs (apT ls ss x))]) s a b), (s, suX xs l m, suX (sumX xs (apT ls ss x)) l m), (X, bufC x j, bufC x j)] [(a, lnT ls, lnT (ls ++ [x])), (b, lnT ss, lnT (ss ++ [signB 72 (sumN xs (apT ls ss x))])), (l, suL xs, suL (sumX xs (apT ls ss x))), (m, suM xs, suM (sumX xs (apT ls ss x)))] := by
  obtain ⟨hlen, hsum, hmost, _, hfew⟩ := h
  have hlt : ls.length < ss.length := by omega
  obtain ⟨y, hy⟩ : ∃ y, ss[ls.length]? = some y := ⟨_, List.getElem?_eq_getElem hlt⟩
  have hy32 := hsum y (List.mem_of_getElem? hy)
  have hT : apT ls ss x = y ++ x := by unfold apT; rw [List.getD_eq_getElem?_getD, hy]; rfl
  have hc : (ss.map bsA)[ls.length]? = some (bsA y) := by rw [List.getElem?_map, hy]; rfl
  rw [hT]
  refine ASys.mk (args0 := [.ptr 0 0, .buf 2 0 x.length (x.length + j)]) (zo := [(0, chC ls ss 1 3 4, chC (ls ++ [x]) (ss ++ [signB 72 (sumN xs (y ++ x))]) 1 3 4), (1, suX xs 5 6, suX (sumX xs (y ++ x)) 5 6), (2, bufC x j, bufC x j)]) (zt := [(3, lnT ls, lnT (ls ++ [x])), (4, lnT ss, lnT (ss ++ [signB 72 (sumN xs (y ++ x))])), (5, suL xs, suL (sumX xs (y ++ x))), (6, suM xs, suM (sumX xs (y ++ x)))]) 7 (fun i => if i = 0 then c else if i = 1 then s else if i = 2 then X else if i = 3 then a else if i = 4 then b else if i = 5 then l else m) rfl ?_ rfl (by omega) ?_ ?_ ?_ rfl ?_ rfl ?_
  · simp only [List.map_cons, List.map_nil, bufC_ren, suX_ren, chC_ren]; rfl
  · intro i h0 h1
    simp [sysIds]
    omega
  · intro i hi
    simp [sysIds] at hi
    omega
  · simp [sysIds]
  · intro e he
    simp only [List.mem_cons, List.not_mem_nil, or_false] at he
    rcases he with rfl | rfl | rfl
    · exact ⟨chC_ids _ _ _ _ _ _ rfl rfl rfl, chC_ids _ _ _ _ _ _ rfl rfl rfl⟩
    · exact ⟨suX_ids _ _ _ _ rfl rfl, suX_ids _ _ _ _ rfl rfl⟩
    · exact ⟨bufC_ids _ _ _, bufC_ids _ _ _⟩
  · simp only [List.map_cons, List.map_nil]
    refine ACalls_body Try.func15 rfl rfl ?_
    simp only [Try.ntmps15, List.length_cons, List.length_nil, Nat.reduceAdd, Nat.reduceSub, List.replicate_succ, List.replicate_zero, List.cons_append, List.nil_append]
    have e1 := sumB_sys y x j (by omega) (by omega) xs hfew 1 2 5 6
    have e2 := cloneB_sys x j (by omega) (by omega) 2
    refine RunB ?_ trivial trivial trivial trivial trivial trivial trivial trivial trivial trivial trivial trivial
    refine ⟨rfl, by show (7 : Int) ≤ 7; omega, ?_, ?_⟩
    · intro e he
      simp only [List.mem_cons, List.not_mem_nil, or_false] at he
      rcases he with rfl | rfl | rfl
      · show some _ = some _
        simp only [chC, List.map_append, List.map_cons, List.map_nil, List.length_append, List.length_cons, List.length_nil, Nat.zero_add]
      · rfl
      · rfl
    · intro e he
      simp only [List.mem_cons, List.not_mem_nil, or_false] at he
      rcases he with rfl | rfl | rfl | rfl
      · show some _ = some _
        simp only [lnT, List.length_append, List.length_cons, List.length_nil, Nat.zero_add]
      · show some _ = some _
        simp only [lnT, List.length_append, List.length_cons, List.length_nil, Nat.zero_add]
      · rfl
      · rfl
end Go.Proofs.Ythpigmkdchnnoaa
