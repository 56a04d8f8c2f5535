/- Law 9: EntryOwn. -/
import Derived.Test.YtaffpkogcpkmjaaEnZ0
import Derived.Test.YtaffpkogcpkmjaaEnQ
import Derived.Test.YtaffpkogcpkmjaaEnD3
namespace Go.Proofs.Ytaffpkogcpkmjaa
open Go.RowKit
set_option linter.unusedVariables false
set_option linter.unusedSimpArgs false
set_option maxRecDepth 10000
set_option maxHeartbeats 4000000 in
theorem EntryOwn_law (e : En) (hm : e.wraps.length ≤ 9223372036854775807) : ACalls Try.prog 8 [enA e] ⟨[], [], 0⟩ (fun rv _ => rv = .bool true) := by
  refine ACalls_body Try.func8 rfl rfl ?_
  simp only [Try.ntmps8, List.length_cons, List.length_nil, Nat.reduceAdd, Nat.reduceSub, List.replicate_succ, List.replicate_zero, List.cons_append, List.nil_append]
  have hS := smallE_val e hm
  by_cases hsm : SmallE e
  · rw [decide_eq_true hsm] at hS
    have hmid := hsm.mid
    by_cases hok : EnOk e
    · have hbl := enB_len hok
      have hEB := enencode_buf e hmid hok
      have hDB := fun j => endecode_buf (enB e) j (by have := enB_len hok; omega)
      rw [enD_ok hok] at hDB
      have hSm := ensame_val e e hmid
      rw [En.same_self] at hSm
      refine Run ?_ trivial trivial @anchor9_val trivial trivial trivial trivial trivial trivial trivial trivial trivial
      with_reducible apply R_call_k
      case hf => rfl
      case ha => rfl
      case hc => exact (fun vs w => by kernel_rfl)
      case h => exact hEB _
      rintro _ _ ⟨j, rfl, rfl⟩
      rw [Nat.mul_one]
      refine Run ?_ trivial trivial trivial trivial trivial trivial trivial trivial trivial trivial trivial trivial
      with_reducible apply R_call_k
      case hf => rfl
      case ha => rfl
      case hc => exact (fun vs w => by kernel_rfl)
      case h => exact hDB j 1 _ rfl rfl (by show (1 : Int) < 2; omega)
      rintro _ _ ⟨rfl, rfl⟩
      refine Run ?_ trivial trivial trivial trivial trivial trivial trivial trivial trivial trivial trivial trivial
      refine AWP_loopS [7, 25, 26, 27, 28, 29, 30, 31, 32, 33, 34, 35, 36] (N := Nat × List AV × List AV) (fun ⟨k, cs, js⟩ => [js.getD 0 .und, .buf 1 0 (enB e).length ((enB e).length + j), .int .i64 ((enB e).length : Int), .int .i64 (k : Int), js.getD 1 .und, js.getD 2 .und, js.getD 3 .und, js.getD 4 .und, js.getD 5 .und, js.getD 6 .und, js.getD 7 .und, js.getD 8 .und, js.getD 9 .und]) (fun ⟨k, cs, js⟩ => ⟨[(2, enC e), (1, cs), (0, enC e)], [], 3⟩) (fun ⟨k, cs, js⟩ => k ≤ (enB e).length ∧ cs.length = (enB e).length + j ∧ ∀ i, k ≤ i → i < (enB e).length → cs[i]? = some (bvA ((enB e).getD i 0))) (fun ⟨k, cs, js⟩ => (enB e).length - k) ⟨0, _, [_, _, _, _, _, _, _, _, _, _]⟩ rfl rfl ?hi0 ?_
      rotate_left
      rintro ⟨k, cs, js⟩ sl_ hs hi
      simp only [setsF, setF, Option.some.injEq] at hs
      subst hs
      case hi0 =>
        refine ⟨by omega, by simp [anys], fun i _ hi => ?_⟩
        rw [List.getElem?_append_left (by simpa using hi), List.getElem?_map, List.getElem?_eq_getElem hi, List.getD_eq_getElem?_getD, List.getElem?_eq_getElem hi]
        rfl
      obtain ⟨hk, hcl, hcs⟩ := hi
      by_cases hlt : k < (enB e).length
      · have hc : cs[k]? = some (bvA ((enB e).getD k 0)) := hcs k (Nat.le_refl _) hlt
        have hle : k < cs.length := by omega
        refine Run ?_ trivial trivial trivial trivial trivial trivial trivial trivial trivial trivial trivial trivial
        refine ALoopQ_normal ⟨k + 1, _, [_, _, _, _, _, _, _, _, _, _]⟩ rfl rfl ?hi1 ?hm1
        case hi1 =>
          refine ⟨by omega, by rw [List.length_set]; exact hcl, fun i h1 h2 => ?_⟩
          rw [List.getElem?_set_ne (by omega)]
          exact hcs i (by omega) h2
        case hm1 => simp only; omega
      · obtain rfl : k = (enB e).length := by omega
        refine Run ?_ trivial trivial trivial trivial trivial trivial trivial trivial trivial trivial trivial trivial
        rfl
    · have hE := enencode_val e hmid
      rw [enR_no hok] at hE
      refine Run ?_ trivial trivial @anchor9_val trivial trivial trivial trivial trivial trivial trivial trivial trivial
      rfl
  · rw [decide_eq_false hsm] at hS
    refine Run ?_ trivial trivial @anchor9_val trivial trivial trivial trivial trivial trivial trivial trivial trivial
    rfl
theorem EntryOwn_walk (w : World) (cs : Array Value) (e : En) (hf : REn w cs.toList e) : Calls Try.prog 8 #[.agg cs] w (Tells w true) := (EntryOwn_law e hf.wraps).tells (.one hf.agg)
end Go.Proofs.Ytaffpkogcpkmjaa
