/- The Reader's methods, by the abstract machine: get, Number, Text, Bad, End; Read. -/
import Derived.Test.YtnjkklkjlloedaaRdA
import Derived.Test.YtnjkklkjlloedaaRun
namespace Go.Proofs.Ytnjkklkjlloedaa
open Go.RowKit
set_option linter.unusedVariables false
set_option linter.unusedSimpArgs false
set_option maxRecDepth 10000
theorem get_mth (l : List UInt8) (bad : Bool) (size : Nat) (hsz : size ≤ 6) : AMth Try.prog 80 (rdC l bad) [.int .i64 (size : Int)] (.int .i64 ((rget size (l, bad)).1 : Int)) (rdC (rget size (l, bad)).2.1 (rget size (l, bad)).2.2) := by
  refine AMth.mk (by simp [AV.shutL, AV.shut]) (rdC_shut _ _) (by simp [AV.shut]) (rdC_shut _ _) ?_
  refine ACalls_body Try.func80 rfl rfl ?_
  simp only [Try.ntmps80, List.length_cons, List.length_nil, Nat.reduceAdd, Nat.reduceSub, List.replicate_succ, List.replicate_zero, List.cons_append, List.nil_append]
  by_cases hb : bad = true ∨ l.length < size
  · have hr : rget size (l, bad) = (0, (l, true)) := by unfold rget; rw [if_pos hb]
    rw [hr]
    refine Run ?_ trivial trivial @take_bad_mth trivial trivial trivial trivial trivial trivial trivial trivial trivial
    with_reducible refine AWP_loop_n 1 ?_
    refine Run ?_ trivial trivial trivial trivial trivial trivial trivial trivial trivial trivial trivial trivial
    exact ⟨.inl rfl, Int.le_refl _, _, rfl, .inl rfl⟩
  · obtain ⟨hb1, hle⟩ : bad = false ∧ size ≤ l.length := by
      rw [not_or] at hb
      exact ⟨by simpa using hb.1, by omega⟩
    subst hb1
    have hr : rget size (l, false) = (numOf (l.take size), (l.drop size, false)) := by unfold rget; rw [if_neg hb]
    rw [hr]
    have htl : (l.take size).length = size := by rw [List.length_take]; omega
    refine Run ?_ trivial trivial @take_ok_mth trivial trivial trivial trivial trivial trivial trivial trivial trivial
    refine AWP_loopS [5, 7, 10, 11, 12, 13, 14, 15, 16, 17, 18, 19, 20, 21] (N := Nat × Int × List AV) (fun ⟨k, n, js⟩ => [.int .i64 n, js.getD 0 .und, .sl .full ((l.take size).map bvA) size, .int .i64 (size : Int), .int .i64 (k : Int), js.getD 1 .und, js.getD 2 .und, js.getD 3 .und, js.getD 4 .und, js.getD 5 .und, js.getD 6 .und, js.getD 7 .und, js.getD 8 .und, js.getD 9 .und]) (fun ⟨k, n, js⟩ => ⟨[(0, rdC (l.drop size) false)], [], 1⟩) (fun ⟨k, n, js⟩ => k ≤ size ∧ n = (numOf ((l.take size).take k) : Int)) (fun ⟨k, n, js⟩ => size - k) ⟨0, 0, [_, _, _, _, _, _, _, _, _, _]⟩ rfl rfl ?hi0 ?_
    rotate_left
    rintro ⟨k, n, js⟩ sl_ hs hi
    simp only [setsF, setF, Option.some.injEq] at hs
    subst hs
    case hi0 => exact ⟨by omega, rfl⟩
    obtain ⟨hk, hn⟩ := hi
    by_cases hlt : k < size
    · have hkl : k < (l.take size).length := by omega
      refine Run ?_ trivial trivial trivial trivial trivial trivial trivial trivial trivial trivial trivial trivial
      refine ALoopQ_normal ⟨k + 1, _, [_, _, _, _, _, _, _, _, _, _]⟩ rfl rfl ?hi1 ?hm1
      case hi1 =>
        refine ⟨by omega, ?_⟩
        have hn5 : numOf ((l.take size).take k) < 256 ^ 5 := numOf_small _ 5 (by rw [List.length_take]; omega)
        rw [hn, show ((2 : Int) ^ (8 : Int).toNat) = 256 from rfl, wraps_i64 _ (by omega) (by omega), or_byte _ _ hn5 (UInt8.toNat_lt _), List.take_add_one, List.getElem?_eq_getElem hkl, Option.toList_some, numOf_snoc, List.getD_eq_getElem?_getD, List.getElem?_eq_getElem hkl]
        rfl
      case hm1 => simp only; omega
    · obtain rfl : k = size := by omega
      refine Run ?_ trivial trivial trivial trivial trivial trivial trivial trivial trivial trivial trivial trivial
      refine ⟨.inl ?_, Int.le_refl _, _, rfl, .inl rfl⟩
      rw [aone, hn, List.take_of_length_le (by rw [htl]; exact Nat.le_refl _)]
end Go.Proofs.Ytnjkklkjlloedaa
