/- The reference of layer 17 by the abstract machine: Right, Same, Bytes, Read. -/
import Derived.Test.YtnjkklkjlloedaaRfN
import Derived.Test.YtnjkklkjlloedaaFrD
namespace Go.Proofs.Ytnjkklkjlloedaa
open Go.RowKit
set_option linter.unusedVariables false
set_option linter.unusedSimpArgs false
set_option maxRecDepth 10000
theorem FrOk.bad {f : Fr} (h : f.links.any lkBad = true) : ¬ FrOk f := by
  rintro ⟨_, _, _, _, h2 | h2 | h2 | h2⟩
  · have := h2.2.1.2.2; rw [h] at this; cases this
  · rw [List.eq_nil_of_length_eq_zero h2.2.1] at h; cases h
  · have := h2.2.1.2.2; rw [h] at this; cases this
  · rw [List.eq_nil_of_length_eq_zero h2.2.1] at h; cases h
theorem FrOk.good {f : Fr} (h : f.links.any lkBad = false) : FrOk f ↔ (1 ≤ f.coll ∧ f.coll ≤ 1099511627776 ∧ 0 ≤ f.idx ∧ f.idx ≤ 64 ∧
  ((f.kind = 1 ∧ 1 ≤ f.links.length ∧ f.links.length ≤ 8 ∧ f.idx = 0 ∧ f.sum.length = 0) ∨ (f.kind = 2 ∧ f.links.length = 0 ∧ f.sum.length = 0) ∨ (f.kind = 3 ∧ f.links.length ≤ 8 ∧ f.sum.length = 0) ∨ (f.kind = 4 ∧ f.links.length = 0 ∧ f.sum.length = 32))) := by
  unfold FrOk LkOk
  rw [h]
  simp only [and_true]
  omega
theorem any_take_false {α : Type} {p : α → Bool} {l : List α} (h : ∀ x ∈ l, p x = false) : l.any p = false := by simpa using h
theorem refRight_val (f : Fr) (hm : f.links.length ≤ 1000000) : AVal Try.prog 18 [frA f] (.bool (decide (FrOk f))) := by
  refine AVal.mkw (by simp only [AV.shutL, frA_shut, Bool.and_self]) (by simp [AV.shut]) ?_
  refine ACalls_body Try.func18 rfl rfl ?_
  simp only [Try.ntmps18, List.length_cons, List.length_nil, Nat.reduceAdd, Nat.reduceSub, List.replicate_succ, List.replicate_zero, List.cons_append, List.nil_append]
  unfold frA
  by_cases hbase : 1 ≤ f.coll ∧ f.coll ≤ 1099511627776 ∧ 0 ≤ f.idx ∧ f.idx ≤ 64 ∧ f.links.length ≤ 8
  · refine Run ?_ trivial trivial trivial trivial trivial trivial trivial trivial trivial trivial trivial trivial
    refine AWP_loopS [2, 3, 28, 29, 30, 31, 32, 33, 34, 35, 36, 37, 38, 39, 40, 41, 42, 43, 44, 45, 46, 47, 48, 49, 50] (N := Nat × List AV) (fun ⟨k, js⟩ => [js.getD 0 .und, .int .i64 (k : Int), js.getD 1 .und, js.getD 2 .und, js.getD 3 .und, js.getD 4 .und, js.getD 5 .und, js.getD 6 .und, js.getD 7 .und, js.getD 8 .und, js.getD 9 .und, js.getD 10 .und, js.getD 11 .und, js.getD 12 .und, js.getD 13 .und, js.getD 14 .und, js.getD 15 .und, js.getD 16 .und, js.getD 17 .und, js.getD 18 .und, js.getD 19 .und, js.getD 20 .und, js.getD 21 .und, js.getD 22 .und, js.getD 23 .und]) (fun ⟨k, js⟩ => ⟨[(0, [.int .i64 f.kind, .int .i64 f.coll, .int .i64 f.idx, lkA f.links, bsA f.sum])], [], 1⟩) (fun ⟨k, js⟩ => k ≤ f.links.length ∧ ∀ b ∈ f.links.take k, lkBad b = false) (fun ⟨k, js⟩ => f.links.length - k) ⟨0, [_, _, _, _, _, _, _, _, _, _, _, _, _, _, _, _, _, _, _, _, _, _, _, _]⟩ rfl rfl ?hi0 ?_
    rotate_left
    rintro ⟨k, js⟩ sl_ hs hi
    simp only [setsF, setF, Option.some.injEq] at hs
    subst hs
    case hi0 => exact ⟨by omega, by simp⟩
    obtain ⟨hk, hn⟩ := hi
    by_cases hlt : k < f.links.length
    · have hel : f.links[k]? = some f.links[k] := List.getElem?_eq_getElem hlt
      have hcl : (f.links.map bsA)[k]? = some (bsA f.links[k]) := by rw [List.getElem?_map, hel]; rfl
      generalize hx : f.links[k] = x at *
      by_cases h1 : x.length < 1 ∨ 4096 < x.length
      · rw [decide_eq_false (FrOk.bad (List.any_eq_true.2 ⟨x, List.mem_of_getElem? hel, by simp only [lkBad, decide_eq_true_eq]; exact h1⟩))]
        by_cases h2 : x.length < 1
        · refine Run ?_ trivial trivial trivial trivial trivial trivial trivial trivial trivial trivial trivial trivial
          rfl
        · refine Run ?_ trivial trivial trivial trivial trivial trivial trivial trivial trivial trivial trivial trivial
          rfl
      · have h2 : lkBad x = false := by simp only [lkBad, decide_eq_false_iff_not]; exact h1
        refine Run ?_ trivial trivial trivial trivial trivial trivial trivial trivial trivial trivial trivial trivial
        refine ALoopQ_normal ⟨k + 1, [_, _, _, _, _, _, _, _, _, _, _, _, _, _, _, _, _, _, _, _, _, _, _, _]⟩ rfl rfl ?hi1 ?hm1
        case hi1 => exact ⟨by omega, take_succ_all hel hn h2⟩
        case hm1 => simp only; omega
    · obtain rfl : k = f.links.length := by omega
      rw [List.take_length] at hn
      have hF := FrOk.good (any_take_false hn)
      refine Run trivial trivial trivial trivial trivial trivial trivial trivial trivial trivial trivial hF Split.ok
  · have hno : ¬ FrOk f := by
      intro h
      have h1 := h.links.1
      exact hbase ⟨h.1, h.2.1, h.2.2.1, h.2.2.2.1, h1⟩
    rw [decide_eq_false hno]
    refine Run trivial trivial trivial trivial trivial trivial trivial trivial trivial trivial trivial trivial Split.ok
end Go.Proofs.Ytnjkklkjlloedaa
