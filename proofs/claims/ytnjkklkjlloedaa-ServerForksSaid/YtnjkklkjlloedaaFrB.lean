/- frame: slices.Equal, EqualFunc, Same, by the abstract machine. -/
import Derived.Test.YtnjkklkjlloedaaFrA
namespace Go.Proofs.Ytnjkklkjlloedaa
open Go.RowKit
set_option linter.unusedVariables false
set_option linter.unusedSimpArgs false
set_option maxRecDepth 10000
theorem equal_val (a b : List UInt8) (hm : a.length ≤ 1000000000) : AVal Try.prog 73 [bsA a, bsA b] (.bool (a == b)) := by
  refine AVal.mkw (by simp [AV.shutL, bsA_shut]) (by simp [AV.shut]) ?_
  refine ACalls_body Try.func73 rfl rfl ?_
  simp only [Try.ntmps73, List.length_cons, List.length_nil, Nat.reduceAdd, Nat.reduceSub, List.replicate_succ, List.replicate_zero, List.cons_append, List.nil_append]
  by_cases hl : (a.length : Int) = b.length
  · refine Run ?_ trivial trivial trivial trivial trivial trivial trivial trivial trivial trivial trivial trivial
    refine AWP_loopS [4, 5, 12, 13, 14, 15, 16, 17, 18, 19, 20, 21, 22, 23, 24, 25] (N := Nat × List AV) (fun ⟨k, js⟩ => [js.getD 0 .und, js.getD 1 .und, .int .i64 (a.length : Int), .int .i64 (k : Int), js.getD 2 .und, js.getD 3 .und, js.getD 4 .und, js.getD 5 .und, js.getD 6 .und, js.getD 7 .und, js.getD 8 .und, js.getD 9 .und, js.getD 10 .und, js.getD 11 .und, js.getD 12 .und, js.getD 13 .und]) (fun ⟨k, js⟩ => ⟨[], [], 0⟩) (fun ⟨k, js⟩ => k ≤ a.length ∧ a.take k = b.take k) (fun ⟨k, js⟩ => a.length - k) ⟨0, [_, _, _, _, _, _, _, _, _, _, _, _, _, _]⟩ rfl rfl ?hi0 ?_
    rotate_left
    rintro ⟨k, js⟩ sl_ hs hi
    simp only [setsF, setF, Option.some.injEq] at hs
    subst hs
    case hi0 => exact ⟨by omega, rfl⟩
    obtain ⟨hk, hn⟩ := hi
    by_cases hlt : k < a.length
    · cases he : (a.getD k 0 != b.getD k 0) with
      | true =>
        refine Run ?_ trivial trivial trivial trivial trivial trivial trivial trivial trivial trivial trivial trivial
        simp only [aone, AV.wk, AV.bool.injEq]
        refine (beq_eq_false_iff_ne.2 fun e => ?_).symm
        subst e
        simp at he
      | false =>
        refine Run ?_ trivial trivial trivial trivial trivial trivial trivial trivial trivial trivial trivial trivial
        refine ALoopQ_normal ⟨k + 1, [_, _, _, _, _, _, _, _, _, _, _, _, _, _]⟩ rfl rfl ?hi1 ?hm1
        case hi1 =>
          refine ⟨by omega, ?_⟩
          rw [List.take_add_one, List.take_add_one, hn]
          have hka : k < b.length := by omega
          simp only [List.getD_eq_getElem?_getD, List.getElem?_eq_getElem hlt, List.getElem?_eq_getElem hka, Option.getD_some, bne_eq_false_iff_eq] at he
          rw [List.getElem?_eq_getElem hlt, List.getElem?_eq_getElem hka, he]
        case hm1 => simp only; omega
    · obtain rfl : k = a.length := by omega
      refine Run ?_ trivial trivial trivial trivial trivial trivial trivial trivial trivial trivial trivial trivial
      rw [List.take_length, List.take_of_length_le (by omega)] at hn
      subst hn
      simp [aone, AV.wk]
  · refine Run ?_ trivial trivial trivial trivial trivial trivial trivial trivial trivial trivial trivial trivial
    simp only [aone, AV.wk, AV.bool.injEq]
    exact (beq_eq_false_iff_ne.2 fun e => hl (by rw [e])).symm
theorem same1_val (a b : List UInt8) (hm : a.length ≤ 1000000000) : AVal Try.prog 75 [bsA a, bsA b] (.bool (a == b)) := by
  refine AVal.mkw (by simp [AV.shutL, bsA_shut]) (by simp [AV.shut]) ?_
  refine ACalls_body Try.func75 rfl rfl ?_
  simp only [Try.ntmps75, List.length_cons, List.length_nil, Nat.reduceAdd, Nat.reduceSub, List.replicate_succ, List.replicate_zero, List.cons_append, List.nil_append]
  have h1 := equal_val a b hm
  refine Run ?_ trivial trivial trivial trivial trivial trivial trivial trivial trivial trivial trivial trivial
  rfl
theorem equalFunc_val (g : FuncId) (a b : List (List UInt8)) (hg : ∀ x ∈ a, ∀ y ∈ b, AVal Try.prog g [bsA x, bsA y] (.bool (x == y))) (hc : ∀ (vs : Array Value) (w : World), (callFunc g vs).run Try.prog w = .ok (.enter g vs) w) (hm : a.length ≤ 1000000000) : AVal Try.prog 74 [lkA a, lkA b, .fn g [] []] (.bool (a == b)) := by
  refine AVal.mkw (by simp [AV.shutL, lkA_shut, AV.shut, bsAs_shut]) (by simp [AV.shut]) ?_
  refine ACalls_body Try.func74 rfl rfl ?_
  simp only [Try.ntmps74, List.length_cons, List.length_nil, Nat.reduceAdd, Nat.reduceSub, List.replicate_succ, List.replicate_zero, List.cons_append, List.nil_append]
  by_cases hl : (a.length : Int) = b.length
  · refine Run ?_ trivial trivial trivial trivial trivial trivial trivial trivial trivial trivial trivial trivial
    refine AWP_loopS [6, 7, 8, 9, 15, 16, 17, 18, 19, 20, 21, 22, 23, 24, 25, 26, 27, 28, 29, 30, 31] (N := Nat × List AV) (fun ⟨k, js⟩ => [js.getD 0 .und, js.getD 1 .und, js.getD 2 .und, js.getD 3 .und, lkA a, .int .i64 (a.length : Int), .int .i64 (k : Int), js.getD 4 .und, js.getD 5 .und, js.getD 6 .und, js.getD 7 .und, js.getD 8 .und, js.getD 9 .und, js.getD 10 .und, js.getD 11 .und, js.getD 12 .und, js.getD 13 .und, js.getD 14 .und, js.getD 15 .und, js.getD 16 .und, js.getD 17 .und]) (fun ⟨k, js⟩ => ⟨[], [], 0⟩) (fun ⟨k, js⟩ => k ≤ a.length ∧ a.take k = b.take k) (fun ⟨k, js⟩ => a.length - k) ⟨0, [_, _, _, _, _, _, _, _, _, _, _, _, _, _, _, _, _, _]⟩ rfl rfl ?hi0 ?_
    rotate_left
    rintro ⟨k, js⟩ sl_ hs hi
    simp only [setsF, setF, Option.some.injEq] at hs
    subst hs
    case hi0 => exact ⟨by omega, rfl⟩
    obtain ⟨hk, hn⟩ := hi
    by_cases hlt : k < a.length
    · have hka : k < b.length := by omega
      have hel : a[k]? = some a[k] := List.getElem?_eq_getElem hlt
      have hel2 : b[k]? = some b[k] := List.getElem?_eq_getElem hka
      have hcl : (a.map bsA)[k]? = some (bsA a[k]) := by rw [List.getElem?_map, hel]; rfl
      have hcl2 : (b.map bsA)[k]? = some (bsA b[k]) := by rw [List.getElem?_map, hel2]; rfl
      have h1 := hg a[k] (List.getElem_mem hlt) b[k] (List.getElem_mem hka)
      cases he : (a[k] == b[k]) with
      | true =>
        rw [he] at h1
        refine Run ?_ trivial trivial trivial trivial trivial trivial trivial trivial trivial trivial trivial trivial
        refine ALoopQ_normal ⟨k + 1, [_, _, _, _, _, _, _, _, _, _, _, _, _, _, _, _, _, _]⟩ rfl rfl ?hi1 ?hm1
        case hi1 =>
          refine ⟨by omega, ?_⟩
          rw [List.take_add_one, List.take_add_one, hn, hel, hel2, beq_iff_eq.1 he]
        case hm1 => simp only; omega
      | false =>
        rw [he] at h1
        refine Run ?_ trivial trivial trivial trivial trivial trivial trivial trivial trivial trivial trivial trivial
        simp only [aone, AV.wk, AV.bool.injEq]
        refine (beq_eq_false_iff_ne.2 fun e => ?_).symm
        subst e
        simp at he
    · obtain rfl : k = a.length := by omega
      refine Run ?_ trivial trivial trivial trivial trivial trivial trivial trivial trivial trivial trivial trivial
      rw [List.take_length, List.take_of_length_le (by omega)] at hn
      subst hn
      simp [aone, AV.wk]
  · refine Run ?_ trivial trivial trivial trivial trivial trivial trivial trivial trivial trivial trivial trivial
    simp only [aone, AV.wk, AV.bool.injEq]
    exact (beq_eq_false_iff_ne.2 fun e => hl (by rw [e])).symm
def Fr.same (a b : Fr) : Bool := decide (a.kind = b.kind ∧ a.coll = b.coll ∧ a.idx = b.idx ∧ a.sum = b.sum ∧ a.links = b.links)
theorem Fr.same_iff (a b : Fr) : a.same b = true ↔ a = b := by
  obtain ⟨k, c, i, l, s⟩ := a
  obtain ⟨k', c', i', l', s'⟩ := b
  simp only [Fr.same, decide_eq_true_eq, Fr.mk.injEq]
  exact ⟨fun ⟨h1, h2, h3, h4, h5⟩ => ⟨h1, h2, h3, h5, h4⟩, fun ⟨h1, h2, h3, h5, h4⟩ => ⟨h1, h2, h3, h4, h5⟩⟩
theorem same_val (a b : Fr) (hm : a.links.length ≤ 1000000) (hms : a.sum.length ≤ 1000000) (hml : ∀ x ∈ a.links, x.length ≤ 1000000) : AVal Try.prog 48 [frA a, frA b] (.bool (a.same b)) := by
  refine AVal.mkw (by simp only [AV.shutL, frA_shut, Bool.and_self]) (by simp [AV.shut]) ?_
  refine ACalls_body Try.func48 rfl rfl ?_
  simp only [Try.ntmps48, List.length_cons, List.length_nil, Nat.reduceAdd, Nat.reduceSub, List.replicate_succ, List.replicate_zero, List.cons_append, List.nil_append]
  have h1 := equal_val a.sum b.sum (by omega)
  have h2 := equalFunc_val 75 a.links b.links (fun x hx y hy => same1_val x y (by have := hml x hx; omega)) (fun vs w => by kernel_rfl) (by omega)
  by_cases hs : a.sum = b.sum
  · rw [show (a.sum == b.sum) = true from beq_iff_eq.2 hs] at h1
    by_cases hl : a.links = b.links
    · rw [show (a.links == b.links) = true from beq_iff_eq.2 hl] at h2
      refine Run trivial trivial trivial trivial trivial trivial trivial trivial trivial trivial trivial @Fr.same.eq_1 Split.ok
    · rw [show (a.links == b.links) = false from beq_eq_false_iff_ne.2 hl] at h2
      refine Run trivial trivial trivial trivial trivial trivial trivial trivial trivial trivial trivial @Fr.same.eq_1 Split.ok
  · rw [show (a.sum == b.sum) = false from beq_eq_false_iff_ne.2 hs] at h1
    refine Run trivial trivial trivial trivial trivial trivial trivial trivial trivial trivial trivial @Fr.same.eq_1 Split.ok
end Go.Proofs.Ytnjkklkjlloedaa
