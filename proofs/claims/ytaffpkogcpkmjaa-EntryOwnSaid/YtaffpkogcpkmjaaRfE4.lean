/- The reference of layer 9 by the abstract machine: Same. -/
import Derived.Test.YtaffpkogcpkmjaaRfE1
import Derived.Test.YtaffpkogcpkmjaaEnB
namespace Go.Proofs.Ytaffpkogcpkmjaa
open Go.RowKit
set_option linter.unusedVariables false
set_option linter.unusedSimpArgs false
set_option maxRecDepth 10000
set_option maxHeartbeats 8000000 in
theorem refESame_val (a b : En) (hm : a.wraps.length ≤ 1000000) : AVal Try.prog 23 [enA a, enA b] (.bool (a.same b)) := by
  refine AVal.mkw (by simp only [AV.shutL, enA_shut, Bool.and_self]) (by simp [AV.shut]) ?_
  refine ACalls_body Try.func23 rfl rfl ?_
  simp only [Try.ntmps23, List.length_cons, List.length_nil, Nat.reduceAdd, Nat.reduceSub, List.replicate_succ, List.replicate_zero, List.cons_append, List.nil_append]
  simp only [List.append]
  by_cases h0 : a.kind = b.kind ∧ a.writer = b.writer ∧ a.seq = b.seq ∧ a.who = b.who ∧ a.rights = b.rights ∧ a.epoch = b.epoch ∧ a.wraps.length = b.wraps.length ∧ a.name = b.name ∧ a.value = b.value
  · obtain ⟨h1, h2, h3, h4, h5, h6, h7, h8, h9⟩ := h0
    have e8 : (!(a.name == b.name)) = false := by simp [h8]
    have e9 : (!(a.value == b.value)) = false := by simp [h9]
    refine Run ?_ trivial trivial trivial trivial trivial trivial trivial trivial trivial trivial trivial trivial
    refine AWP_loopS [4, 5, 73, 74, 75, 76, 77, 78, 79, 80, 81, 82, 83, 84, 85, 86, 87, 88, 89, 90, 91, 92, 93, 94, 95, 96, 97, 98, 99, 100, 101, 102, 103, 104, 105, 106, 107, 108, 109] (N := Nat × List AV) (fun ⟨k, js⟩ => [js.getD 0 .und, .int .i64 (k : Int), js.getD 1 .und, js.getD 2 .und, js.getD 3 .und, js.getD 4 .und, js.getD 5 .und, js.getD 6 .und, js.getD 7 .und, js.getD 8 .und, js.getD 9 .und, js.getD 10 .und, js.getD 11 .und, js.getD 12 .und, js.getD 13 .und, js.getD 14 .und, js.getD 15 .und, js.getD 16 .und, js.getD 17 .und, js.getD 18 .und, js.getD 19 .und, js.getD 20 .und, js.getD 21 .und, js.getD 22 .und, js.getD 23 .und, js.getD 24 .und, js.getD 25 .und, js.getD 26 .und, js.getD 27 .und, js.getD 28 .und, js.getD 29 .und, js.getD 30 .und, js.getD 31 .und, js.getD 32 .und, js.getD 33 .und, js.getD 34 .und, js.getD 35 .und, js.getD 36 .und, js.getD 37 .und]) (fun ⟨k, js⟩ => ⟨[(1, enC b), (0, enC a)], [], 2⟩) (fun ⟨k, js⟩ => k ≤ a.wraps.length ∧ a.wraps.take k = b.wraps.take k) (fun ⟨k, js⟩ => a.wraps.length - k) ⟨0, [_, _, _, _, _, _, _, _, _, _, _, _, _, _, _, _, _, _, _, _, _, _, _, _, _, _, _, _, _, _, _, _, _, _, _, _, _, _]⟩ rfl rfl ?hi0 ?_
    rotate_left
    rintro ⟨k, js⟩ sl_ hs hi
    simp only [setsF, setF, Option.some.injEq] at hs
    subst hs
    case hi0 => exact ⟨by omega, rfl⟩
    obtain ⟨hk, hn⟩ := hi
    by_cases hlt : k < a.wraps.length
    · have hka : k < b.wraps.length := by omega
      have hel : a.wraps[k]? = some a.wraps[k] := List.getElem?_eq_getElem hlt
      have hel2 : b.wraps[k]? = some b.wraps[k] := List.getElem?_eq_getElem hka
      have c0 : (wpCs a.wraps)[k * 2 + 0]? = some (.int .i64 a.wraps[k].who) := wpCs_who hel
      have c1 : (wpCs a.wraps)[k * 2 + 1]? = some (bsA a.wraps[k].box) := wpCs_box hel
      have d0 : (wpCs b.wraps)[k * 2 + 0]? = some (.int .i64 b.wraps[k].who) := wpCs_who hel2
      have d1 : (wpCs b.wraps)[k * 2 + 1]? = some (bsA b.wraps[k].box) := wpCs_box hel2
      have hne : a.wraps[k] ≠ b.wraps[k] → a.same b = false := fun h => by
        unfold En.same
        rw [decide_eq_false]
        rintro ⟨_, _, _, _, _, _, _, _, g⟩
        exact h (by simp only [g])
      by_cases g1 : a.wraps[k].who = b.wraps[k].who
      · cases he : (!(a.wraps[k].box == b.wraps[k].box)) with
        | true =>
          rw [hne (fun g => by rw [g] at he; simp at he)]
          refine Run ?_ trivial trivial trivial trivial trivial trivial trivial trivial trivial trivial trivial trivial
          rfl
        | false =>
          refine Run ?_ trivial trivial trivial trivial trivial trivial trivial trivial trivial trivial trivial trivial
          refine ALoopQ_normal ⟨k + 1, [_, _, _, _, _, _, _, _, _, _, _, _, _, _, _, _, _, _, _, _, _, _, _, _, _, _, _, _, _, _, _, _, _, _, _, _, _, _]⟩ rfl rfl ?hi1 ?hm1
          case hi1 =>
            refine ⟨by omega, ?_⟩
            rw [List.take_add_one, List.take_add_one, hn, hel, hel2]
            have g2 : a.wraps[k].box = b.wraps[k].box := by simpa using he
            have : a.wraps[k] = b.wraps[k] := by
              rw [show a.wraps[k] = ⟨a.wraps[k].who, a.wraps[k].box⟩ from rfl, g1, g2]
            rw [this]
          case hm1 => simp only; omega
      · rw [hne (fun g => g1 (by rw [g]))]
        refine Run ?_ trivial trivial trivial trivial trivial trivial trivial trivial trivial trivial trivial trivial
        rfl
    · obtain rfl : k = a.wraps.length := by omega
      rw [List.take_length, List.take_of_length_le (by omega)] at hn
      have hyes : a.same b = true := by
        unfold En.same
        exact decide_eq_true ⟨h1, h2, h3, h8, h9, h4, h5, h6, hn⟩
      rw [hyes]
      refine Run ?_ trivial trivial trivial trivial trivial trivial trivial trivial trivial trivial trivial trivial
      rfl
  · have hno : a.same b = false := by
      unfold En.same
      rw [decide_eq_false]
      rintro ⟨h1, h2, h3, h4, h5, h6, h7, h8, h9⟩
      exact h0 ⟨h1, h2, h3, h6, h7, h8, by rw [h9], h4, h5⟩
    rw [hno]
    cases e8 : (!(a.name == b.name)) with
    | true =>
      cases e9 : (!(a.value == b.value)) with
      | true =>
        refine Run trivial trivial trivial trivial trivial trivial trivial trivial trivial trivial trivial trivial Split.ok
      | false =>
        refine Run trivial trivial trivial trivial trivial trivial trivial trivial trivial trivial trivial trivial Split.ok
    | false =>
      have e8' : a.name = b.name := by simpa using e8
      cases e9 : (!(a.value == b.value)) with
      | true =>
        refine Run trivial trivial trivial trivial trivial trivial trivial trivial trivial trivial trivial trivial Split.ok
      | false =>
        have e9' : a.value = b.value := by simpa using e9
        simp only [e8', e9', and_true] at h0
        refine Run trivial trivial trivial trivial trivial trivial trivial trivial trivial trivial trivial trivial Split.ok
end Go.Proofs.Ytaffpkogcpkmjaa
