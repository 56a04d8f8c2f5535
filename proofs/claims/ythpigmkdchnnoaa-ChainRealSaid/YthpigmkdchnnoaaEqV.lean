/- slices.Equal, slices.Clone of bytes, by the abstract machine. -/
import Derived.Test.YthpigmkdchnnoaaPutK
import Derived.Test.YthpigmkdchnnoaaBuf3
namespace Go.Proofs.Ythpigmkdchnnoaa
open Go.RowKit
set_option linter.unusedVariables false
set_option linter.unusedSimpArgs false
set_option maxRecDepth 10000
theorem equal_val (a b : List UInt8) (hm : a.length ≤ 1000000000) : AVal Try.prog 28 [bsA a, bsA b] (.bool (a == b)) := by
  refine AVal.mkw (by simp [AV.shutL, bsA_shut]) (by simp [AV.shut]) ?_
  refine ACalls_body Try.func28 rfl rfl ?_
  simp only [Try.ntmps28, List.length_cons, List.length_nil, Nat.reduceAdd, Nat.reduceSub, List.replicate_succ, List.replicate_zero, List.cons_append, List.nil_append]
  by_cases hl : (a.length : Int) = b.length
  · refine Run ?_ trivial trivial trivial trivial trivial trivial trivial trivial trivial trivial trivial trivial
    refine AWP_loopS [4, 5, 12, 13, 14, 15, 16, 17, 18, 19, 20, 21, 22, 23, 24, 25] (N := Nat × List AV) (fun ⟨k, js⟩ => [js.getD 0 .und, js.getD 1 .und, .int .i64 (a.length : Int), .int .i64 (k : Int), js.getD 2 .und, js.getD 3 .und, js.getD 4 .und, js.getD 5 .und, js.getD 6 .und, js.getD 7 .und, js.getD 8 .und, js.getD 9 .und, js.getD 10 .und, js.getD 11 .und, js.getD 12 .und, js.getD 13 .und]) (fun ⟨k, js⟩ => ⟨[], [], 0⟩) (fun ⟨k, js⟩ => k ≤ a.length ∧ a.take k = b.take k) (fun ⟨k, js⟩ => a.length - k) ⟨0, [_, _, _, _, _, _, _, _, _, _, _, _, _, _]⟩ rfl rfl ?hi0 ?_
    rotate_left
    rintro ⟨k, js⟩ sl_ hs hi
    simp only [setsF, setF, Option.some.injEq] at hs
    subst hs
    case hi0 => exact ⟨by omega, rfl⟩
    obtain ⟨hk, hn⟩ := hi
    by_cases hlt : k < a.length
    · cases he : (a.getD k 0 != b.getD k 0) with
      | true =>
        refine Run ?_ trivial trivial trivial trivial trivial trivial trivial trivial trivial trivial trivial trivial
        simp only [aone, AV.wk, AV.bool.injEq]
        refine (beq_eq_false_iff_ne.2 fun e => ?_).symm
        subst e
        simp at he
      | false =>
        refine Run ?_ trivial trivial trivial trivial trivial trivial trivial trivial trivial trivial trivial trivial
        refine ALoopQ_normal ⟨k + 1, [_, _, _, _, _, _, _, _, _, _, _, _, _, _]⟩ rfl rfl ?hi1 ?hm1
        case hi1 =>
          refine ⟨by omega, ?_⟩
          rw [List.take_add_one, List.take_add_one, hn]
          have hka : k < b.length := by omega
          simp only [List.getD_eq_getElem?_getD, List.getElem?_eq_getElem hlt, List.getElem?_eq_getElem hka, Option.getD_some, bne_eq_false_iff_eq] at he
          rw [List.getElem?_eq_getElem hlt, List.getElem?_eq_getElem hka, he]
        case hm1 => simp only; omega
    · obtain rfl : k = a.length := by omega
      refine Run ?_ trivial trivial trivial trivial trivial trivial trivial trivial trivial trivial trivial trivial
      rw [List.take_length, List.take_of_length_le (by omega)] at hn
      subst hn
      simp [aone, AV.wk]
  · refine Run ?_ trivial trivial trivial trivial trivial trivial trivial trivial trivial trivial trivial trivial
    simp only [aone, AV.wk, AV.bool.injEq]
    exact (beq_eq_false_iff_ne.2 fun e => hl (by rw [e])).symm
theorem clone1_val (l : List UInt8) (h0 : 0 < l.length) (hm : l.length ≤ 1000000) : AVal Try.prog 27 [bsA l] (bsA l) := by
  refine AVal.mkw (by simp [AV.shutL, bsA_shut]) (bsA_shut _) ?_
  refine ACalls_body Try.func27 rfl rfl ?_
  simp only [Try.ntmps27, List.length_cons, List.length_nil, Nat.reduceAdd, Nat.reduceSub, List.replicate_succ, List.replicate_zero, List.cons_append, List.nil_append]
  refine Run ?_ trivial trivial trivial trivial trivial trivial trivial trivial trivial trivial trivial trivial
  with_reducible apply S_eqnil_sl
  case hx => rfl
  case hy => rfl
  case h0 => exact h0
  case hs => exact aput_ok rfl
  refine Run ?_ trivial trivial trivial trivial trivial trivial trivial trivial trivial trivial trivial trivial
  rw [aone]
  unfold AV.wk
  rw [AV.wkL_append, AV.wkL_bvA]
  simp only [AV.wkL, List.nil_append, Nat.zero_add]
end Go.Proofs.Ythpigmkdchnnoaa
