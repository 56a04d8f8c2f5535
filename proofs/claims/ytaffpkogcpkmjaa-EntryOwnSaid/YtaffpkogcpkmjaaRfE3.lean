/- The reference of layer 9 by the abstract machine: join. -/
import Derived.Test.YtaffpkogcpkmjaaRfA
namespace Go.Proofs.Ytaffpkogcpkmjaa
open Go.RowKit
set_option linter.unusedVariables false
set_option linter.unusedSimpArgs false
set_option maxRecDepth 10000
theorem flat_le (ls : List (List UInt8)) (k : Nat) : (ls.take k).flatten.length ≤ ls.flatten.length := by
  conv => rhs; rw [← List.take_append_drop k ls, List.flatten_append, List.length_append]
  omega
theorem el_le {ls : List (List UInt8)} {k : Nat} (hk : k < ls.length) : (ls.take k).flatten.length + ls[k].length ≤ ls.flatten.length := by
  have h := flat_le ls (k + 1)
  rw [List.take_add_one, List.getElem?_eq_getElem hk, List.flatten_append, List.length_append] at h
  simpa using h
theorem refJoin_val (ls : List (List UInt8)) (hn : ls.length ≤ 1000) (hm : ls.flatten.length ≤ 1000000) : AVal Try.prog 49 [lkA ls] (bsA ls.flatten) := by
  refine AVal.mkw (by simp only [AV.shutL, lkA_shut, Bool.and_self]) (bsA_shut _) ?_
  refine ACalls_body Try.func49 rfl rfl ?_
  simp only [Try.ntmps49, List.length_cons, List.length_nil, Nat.reduceAdd, Nat.reduceSub, List.replicate_succ, List.replicate_zero, List.cons_append, List.nil_append]
  refine Run ?_ trivial trivial trivial trivial trivial trivial trivial trivial trivial trivial trivial trivial
  refine AWP_adopt 3 1 rfl (by simp only [setF]; rfl) ?_
  refine AWP_loopS [3, 4, 5, 6, 7, 8, 9, 10, 11, 12, 13, 14, 15, 16] (N := Nat × Nat × List AV × List AV) (fun ⟨k, n, cs, js⟩ => [.sl (.tok 0 n 1) cs n, .int .i64 (k : Int), js.getD 0 .und, js.getD 1 .und, js.getD 2 .und, js.getD 3 .und, js.getD 4 .und, js.getD 5 .und, js.getD 6 .und, js.getD 7 .und, js.getD 8 .und, js.getD 9 .und, js.getD 10 .und, js.getD 11 .und]) (fun ⟨k, n, cs, js⟩ => ⟨[], [(0, n)], 1⟩) (fun ⟨k, n, cs, js⟩ => k ≤ ls.length ∧ cs = (ls.take k).flatten.map bvA ∧ n = (ls.take k).flatten.length) (fun ⟨k, n, cs, js⟩ => ls.length - k) ⟨0, 0, [], [_, _, _, _, _, _, _, _, _, _, _, _]⟩ rfl rfl ?hi0 ?_
  rotate_left
  rintro ⟨k, n, cs, js⟩ sl_ hs hi
  simp only [setsF, setF, Option.some.injEq] at hs
  subst hs
  case hi0 => exact ⟨by omega, rfl, rfl⟩
  obtain ⟨hk, hcs, hnn⟩ := hi
  by_cases hlt : k < ls.length
  · have hel : ls[k]? = some ls[k] := List.getElem?_eq_getElem hlt
    have hc : (ls.map bsA)[k]? = some (bsA ls[k]) := by rw [List.getElem?_map, hel]; rfl
    have hs1 : ls.take (k + 1) = ls.take k ++ [ls[k]] := by rw [List.take_add_one, hel]; rfl
    have hle := el_le hlt
    refine Run ?_ trivial trivial trivial trivial trivial trivial trivial trivial trivial trivial trivial trivial
    refine ALoopQ_normal ⟨k + 1, _, _, [_, _, _, _, _, _, _, _, _, _, _, _]⟩ rfl rfl ?hi1 ?hm1
    case hi1 =>
      refine ⟨by omega, ?_, ?_⟩
      · rw [hs1, List.flatten_append, List.map_append, ← hcs]; simp
      · rw [hs1, List.flatten_append, List.length_append, ← hnn]; simp
    case hm1 => simp only; omega
  · obtain rfl : k = ls.length := by omega
    rw [List.take_length] at hcs hnn
    subst hcs hnn
    refine Run ?_ trivial trivial trivial trivial trivial trivial trivial trivial trivial trivial trivial trivial
    simp only [aone, AV.wk, AV.wkL_bvA]
end Go.Proofs.Ytaffpkogcpkmjaa
