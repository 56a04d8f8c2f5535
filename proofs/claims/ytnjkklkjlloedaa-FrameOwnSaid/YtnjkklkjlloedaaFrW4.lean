/- Law 17: FrameOwn. -/
import Derived.Test.YtnjkklkjlloedaaFrW0
import Derived.Test.YtnjkklkjlloedaaFrQ
namespace Go.Proofs.Ytnjkklkjlloedaa
open Go.RowKit
set_option linter.unusedVariables false
set_option linter.unusedSimpArgs false
set_option maxRecDepth 10000
set_option maxHeartbeats 4000000 in
theorem FrameOwn_law (f : Fr) (hm : f.links.length ≤ 9223372036854775807) : ACalls Try.prog 14 [frA f] ⟨[], [], 0⟩ (fun rv _ => rv = .bool true) := by
  refine ACalls_body Try.func14 rfl rfl ?_
  simp only [Try.ntmps14, List.length_cons, List.length_nil, Nat.reduceAdd, Nat.reduceSub, List.replicate_succ, List.replicate_zero, List.cons_append, List.nil_append]
  have hS := small17_val f hm
  by_cases hsm : SmallF f
  · rw [decide_eq_true hsm] at hS
    have hm2 : f.links.length ≤ 1000000 := by have := hsm.2.1; omega
    by_cases hok : FrOk f
    · by_cases hbig : 32768 < (frB f).length
      · have hE := encode_val f hm2
        rw [encR_big hok hbig] at hE
        unfold frA at *
        refine Run ?_ trivial trivial @anchor17_val trivial trivial trivial trivial trivial trivial trivial trivial trivial
        rfl
      · have hEB := encode_buf f hok (by omega)
        have hDB := fun j => decode_buf (frB f) j (by omega)
        rw [decR_ok hok (by omega)] at hDB
        have hSm := same_val f f hm2 (by have := hsm.2.2; omega) (fun x hx => by have := hsm.1 x hx; omega)
        rw [Fr.same_self] at hSm
        unfold frA at *
        refine Run ?_ trivial trivial @anchor17_val trivial trivial trivial trivial trivial trivial trivial trivial trivial
        with_reducible apply R_call_k
        case hf => rfl
        case ha => rfl
        case hc => exact (fun vs w => by kernel_rfl)
        case h => exact hEB _
        rintro _ _ ⟨j, rfl, rfl⟩
        rw [Nat.mul_one]
        refine Run ?_ trivial trivial trivial trivial trivial trivial trivial trivial trivial trivial trivial trivial
        with_reducible apply R_call_k
        case hf => rfl
        case ha => rfl
        case hc => exact (fun vs w => by kernel_rfl)
        case h => exact hDB j 1 _ rfl rfl (by show (1 : Int) < 2; omega)
        rintro _ _ ⟨rfl, rfl⟩
        refine Run ?_ trivial trivial trivial trivial trivial trivial trivial trivial trivial trivial trivial trivial
        refine AWP_loopS [7, 25, 26, 27, 28, 29, 30, 31, 32, 33, 34, 35, 36] (N := Nat × List AV × List AV) (fun ⟨k, cs, js⟩ => [js.getD 0 .und, .buf 1 0 (frB f).length ((frB f).length + j), .int .i64 ((frB f).length : Int), .int .i64 (k : Int), js.getD 1 .und, js.getD 2 .und, js.getD 3 .und, js.getD 4 .und, js.getD 5 .und, js.getD 6 .und, js.getD 7 .und, js.getD 8 .und, js.getD 9 .und]) (fun ⟨k, cs, js⟩ => ⟨[(2, [.int .i64 f.kind, .int .i64 f.coll, .int .i64 f.idx, lkA f.links, bsA f.sum]), (1, cs), (0, [.int .i64 f.kind, .int .i64 f.coll, .int .i64 f.idx, lkA f.links, bsA f.sum])], [], 3⟩) (fun ⟨k, cs, js⟩ => k ≤ (frB f).length ∧ cs.length = (frB f).length + j ∧ ∀ i, k ≤ i → i < (frB f).length → cs[i]? = some (bvA ((frB f).getD i 0))) (fun ⟨k, cs, js⟩ => (frB f).length - k) ⟨0, _, [_, _, _, _, _, _, _, _, _, _]⟩ rfl rfl ?hi0 ?_
        rotate_left
        rintro ⟨k, cs, js⟩ sl_ hs hi
        simp only [setsF, setF, Option.some.injEq] at hs
        subst hs
        case hi0 =>
          refine ⟨by omega, by simp [anys], fun i _ hi => ?_⟩
          rw [List.getElem?_append_left (by simpa using hi), List.getElem?_map, List.getElem?_eq_getElem hi, List.getD_eq_getElem?_getD, List.getElem?_eq_getElem hi]
          rfl
        obtain ⟨hk, hcl, hcs⟩ := hi
        by_cases hlt : k < (frB f).length
        · have hc : cs[k]? = some (bvA ((frB f).getD k 0)) := hcs k (Nat.le_refl _) hlt
          have hle : k < cs.length := by omega
          refine Run ?_ trivial trivial trivial trivial trivial trivial trivial trivial trivial trivial trivial trivial
          refine ALoopQ_normal ⟨k + 1, _, [_, _, _, _, _, _, _, _, _, _]⟩ rfl rfl ?hi1 ?hm1
          case hi1 =>
            refine ⟨by omega, by rw [List.length_set]; exact hcl, fun i h1 h2 => ?_⟩
            rw [List.getElem?_set_ne (by omega)]
            exact hcs i (by omega) h2
          case hm1 => simp only; omega
        · obtain rfl : k = (frB f).length := by omega
          refine Run ?_ trivial trivial trivial trivial trivial trivial trivial trivial trivial trivial trivial trivial
          rfl
    · have hE := encode_val f hm2
      rw [encR_no hok] at hE
      unfold frA at *
      refine Run ?_ trivial trivial @anchor17_val trivial trivial trivial trivial trivial trivial trivial trivial trivial
      rfl
  · rw [decide_eq_false hsm] at hS
    unfold frA at *
    refine Run ?_ trivial trivial @anchor17_val trivial trivial trivial trivial trivial trivial trivial trivial trivial
    rfl
theorem FrameOwn_walk (w : World) (cs : Array Value) (f : Fr) (hf : RFr w cs.toList f) : Calls Try.prog 14 #[.agg cs] w (Tells w true) := (FrameOwn_law f hf.2.1).tells (.one hf.reps)
end Go.Proofs.Ytnjkklkjlloedaa
