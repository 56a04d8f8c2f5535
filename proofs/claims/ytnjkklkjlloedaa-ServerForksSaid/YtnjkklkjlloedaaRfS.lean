/- The reference of layer 17 by the abstract machine: Same, Bytes. -/
import Derived.Test.YtnjkklkjlloedaaRfB
namespace Go.Proofs.Ytnjkklkjlloedaa
open Go.RowKit
set_option linter.unusedVariables false
set_option linter.unusedSimpArgs false
set_option maxRecDepth 10000
theorem refSame_val (a b : Fr) (hm : a.links.length ≤ 1000000) : AVal Try.prog 54 [frA a, frA b] (.bool (a.same b)) := by
  refine AVal.mkw (by simp only [AV.shutL, frA_shut, Bool.and_self]) (by simp [AV.shut]) ?_
  refine ACalls_body Try.func54 rfl rfl ?_
  simp only [Try.ntmps54, List.length_cons, List.length_nil, Nat.reduceAdd, Nat.reduceSub, List.replicate_succ, List.replicate_zero, List.cons_append, List.nil_append]
  unfold frA
  by_cases h0 : a.kind = b.kind ∧ a.coll = b.coll ∧ a.idx = b.idx ∧ a.links.length = b.links.length
  · cases hs : (!(a.sum == b.sum)) with
    | true =>
      have hno : a.same b = false := by
        unfold Fr.same
        rw [decide_eq_false]
        rintro ⟨_, _, _, h, _⟩
        simp [h] at hs
      rw [hno]
      refine Run ?_ trivial trivial trivial trivial trivial trivial trivial trivial trivial trivial trivial trivial
      rfl
    | false =>
      refine Run ?_ trivial trivial trivial trivial trivial trivial trivial trivial trivial trivial trivial trivial
      have hs' : a.sum = b.sum := by simpa using hs
      refine AWP_loopS [4, 5, 43, 44, 45, 46, 47, 48, 49, 50, 51, 52, 53, 54, 55, 56, 57, 58, 59, 60, 61, 62] (N := Nat × List AV) (fun ⟨k, js⟩ => [js.getD 0 .und, .int .i64 (k : Int), js.getD 1 .und, js.getD 2 .und, js.getD 3 .und, js.getD 4 .und, js.getD 5 .und, js.getD 6 .und, js.getD 7 .und, js.getD 8 .und, js.getD 9 .und, js.getD 10 .und, js.getD 11 .und, js.getD 12 .und, js.getD 13 .und, js.getD 14 .und, js.getD 15 .und, js.getD 16 .und, js.getD 17 .und, js.getD 18 .und, js.getD 19 .und, js.getD 20 .und]) (fun ⟨k, js⟩ => ⟨[(1, [.int .i64 b.kind, .int .i64 b.coll, .int .i64 b.idx, lkA b.links, bsA b.sum]), (0, [.int .i64 a.kind, .int .i64 a.coll, .int .i64 a.idx, lkA a.links, bsA a.sum])], [], 2⟩) (fun ⟨k, js⟩ => k ≤ a.links.length ∧ a.links.take k = b.links.take k) (fun ⟨k, js⟩ => a.links.length - k) ⟨0, [_, _, _, _, _, _, _, _, _, _, _, _, _, _, _, _, _, _, _, _, _]⟩ rfl rfl ?hi0 ?_
      rotate_left
      rintro ⟨k, js⟩ sl_ hs hi
      simp only [setsF, setF, Option.some.injEq] at hs
      subst hs
      case hi0 => exact ⟨by omega, rfl⟩
      obtain ⟨hk, hn⟩ := hi
      by_cases hlt : k < a.links.length
      · have hka : k < b.links.length := by omega
        have hel : a.links[k]? = some a.links[k] := List.getElem?_eq_getElem hlt
        have hel2 : b.links[k]? = some b.links[k] := List.getElem?_eq_getElem hka
        have hcl : (a.links.map bsA)[k]? = some (bsA a.links[k]) := by rw [List.getElem?_map, hel]; rfl
        have hcl2 : (b.links.map bsA)[k]? = some (bsA b.links[k]) := by rw [List.getElem?_map, hel2]; rfl
        cases he : (!(a.links[k] == b.links[k])) with
        | true =>
          have hno : a.same b = false := by
            unfold Fr.same
            rw [decide_eq_false]
            rintro ⟨_, _, _, _, h⟩
            simp [h] at he
          rw [hno]
          refine Run ?_ trivial trivial trivial trivial trivial trivial trivial trivial trivial trivial trivial trivial
          rfl
        | false =>
          refine Run ?_ trivial trivial trivial trivial trivial trivial trivial trivial trivial trivial trivial trivial
          refine ALoopQ_normal ⟨k + 1, [_, _, _, _, _, _, _, _, _, _, _, _, _, _, _, _, _, _, _, _, _]⟩ rfl rfl ?hi1 ?hm1
          case hi1 =>
            refine ⟨by omega, ?_⟩
            rw [List.take_add_one, List.take_add_one, hn, hel, hel2]
            have : a.links[k] = b.links[k] := by simpa using he
            rw [this]
          case hm1 => simp only; omega
      · obtain rfl : k = a.links.length := by omega
        rw [List.take_length, List.take_of_length_le (by omega)] at hn
        have hyes : a.same b = true := by
          unfold Fr.same
          exact decide_eq_true ⟨h0.1, h0.2.1, h0.2.2.1, hs', hn⟩
        rw [hyes]
        refine Run ?_ trivial trivial trivial trivial trivial trivial trivial trivial trivial trivial trivial trivial
        rfl
  · have hno : a.same b = false := by
      unfold Fr.same
      rw [decide_eq_false]
      rintro ⟨h1, h2, h3, _, h5⟩
      exact h0 ⟨h1, h2, h3, by rw [h5]⟩
    rw [hno]
    cases hs : (!(a.sum == b.sum)) with
    | true =>
      refine Run trivial trivial trivial trivial trivial trivial trivial trivial trivial trivial trivial trivial Split.ok
    | false =>
      refine Run trivial trivial trivial trivial trivial trivial trivial trivial trivial trivial trivial trivial Split.ok
theorem putB_app (a b : List Pt) : putB (a ++ b) = putB a ++ putB b := by simp [putB]
theorem refBytes_val (f : Fr) (hok : FrOk f) : AVal Try.prog 20 [frA f] (bsA (frB f)) := by
  refine AVal.mkw (by simp only [AV.shutL, frA_shut, Bool.and_self]) (bsA_shut _) ?_
  refine ACalls_body Try.func20 rfl rfl ?_
  simp only [Try.ntmps20, List.length_cons, List.length_nil, Nat.reduceAdd, Nat.reduceSub, List.replicate_succ, List.replicate_zero, List.cons_append, List.nil_append]
  have hl := hok.links
  have hsm := hok.sum
  obtain ⟨kind, coll, idx, links, sum⟩ := f
  dsimp only at hl hsm
  have hkb : 1 ≤ kind ∧ kind ≤ 4 := by obtain ⟨_, _, _, _, h | h | h | h⟩ := hok <;> (have := h.1; dsimp only at this; omega)
  obtain ⟨h1, h2, h3, h4, _⟩ := hok
  dsimp only at h1 h2 h3 h4
  obtain ⟨kind, rfl⟩ := Int.eq_ofNat_of_zero_le (show 0 ≤ kind by omega)
  obtain ⟨coll, rfl⟩ := Int.eq_ofNat_of_zero_le (show 0 ≤ coll by omega)
  obtain ⟨idx, rfl⟩ := Int.eq_ofNat_of_zero_le h3
  unfold frA
  dsimp only
  refine Run ?_ trivial trivial @refNum_val trivial trivial trivial trivial trivial trivial trivial trivial trivial
  refine AWP_loopS [3, 4, 23, 24, 25, 26, 27, 28, 29, 30, 31, 32, 33, 34, 35, 36, 37] (N := Nat × Nat × List AV × List AV) (fun ⟨k, n, cs, js⟩ => [.sl (.tok 1 n 1) cs n, .int .i64 (k : Int), js.getD 0 .und, js.getD 1 .und, js.getD 2 .und, js.getD 3 .und, js.getD 4 .und, js.getD 5 .und, js.getD 6 .und, js.getD 7 .und, js.getD 8 .und, js.getD 9 .und, js.getD 10 .und, js.getD 11 .und, js.getD 12 .und, js.getD 13 .und, js.getD 14 .und]) (fun ⟨k, n, cs, js⟩ => ⟨[(0, [.int .i64 (kind : Int), .int .i64 (coll : Int), .int .i64 (idx : Int), lkA links, bsA sum])], [(1, n)], 2⟩) (fun ⟨k, n, cs, js⟩ => k ≤ links.length ∧ cs = (putB (frP0 ⟨kind, coll, idx, links, sum⟩ (links.take k))).map bvA ∧ n = (putB (frP0 ⟨kind, coll, idx, links, sum⟩ (links.take k))).length ∧ n ≤ 24 + 4098 * k) (fun ⟨k, n, cs, js⟩ => links.length - k) ⟨0, _, _, [_, _, _, _, _, _, _, _, _, _, _, _, _, _, _]⟩ rfl rfl ?hi0 ?_
  rotate_left
  rintro ⟨k, n, cs, js⟩ sl_ hs hi
  simp only [setsF, setF, Option.some.injEq] at hs
  subst hs
  case hi0 => exact ⟨by omega, by simp [frP0, putB, ptB, numB], by simp [frP0, putB, ptB, numB], by omega⟩
  obtain ⟨hk, hcs, hn, hnb⟩ := hi
  by_cases hlt : k < links.length
  · have hel : links[k]? = some links[k] := List.getElem?_eq_getElem hlt
    have hcl : (links.map bsA)[k]? = some (bsA links[k]) := by rw [List.getElem?_map, hel]; rfl
    have hlk := hl.2 links[k] (List.getElem_mem hlt)
    have htl : (textB links[k]).length = links[k].length + 2 := by simp [textB]
    have hT := refText_val links[k] (by omega)
    refine Run ?_ trivial trivial trivial trivial trivial trivial trivial trivial trivial trivial trivial trivial
    refine ALoopQ_normal ⟨k + 1, _, _, [_, _, _, _, _, _, _, _, _, _, _, _, _, _, _]⟩ rfl rfl ?hi1 ?hm1
    case hi1 =>
      have hs1 : putB (frP0 ⟨kind, coll, idx, links, sum⟩ (links.take (k + 1))) = putB (frP0 ⟨kind, coll, idx, links, sum⟩ (links.take k)) ++ textB links[k] := by
        rw [List.take_add_one, hel, Option.toList_some]
        unfold frP0
        rw [List.map_append, ← List.append_assoc, putB_app]
        simp [putB, ptB]
      refine ⟨by omega, by rw [hs1, List.map_append, hcs], by rw [hs1, List.length_append, hn], by omega⟩
    case hm1 => simp only; omega
  · obtain rfl : k = links.length := by omega
    rw [List.take_length] at hcs hn
    have hT := refText_val sum (by omega)
    have htl : (textB sum).length = sum.length + 2 := by simp [textB]
    refine Run ?_ trivial trivial trivial trivial trivial trivial trivial trivial trivial trivial trivial trivial
    have e : frB ⟨kind, coll, idx, links, sum⟩ = putB (frP0 ⟨kind, coll, idx, links, sum⟩ links) ++ textB sum := by
      unfold frB frP
      rw [putB_app]
      simp [frP0, putB, ptB]
    rw [e, aone, hcs, ← List.map_append]
    exact wk_bs (by rw [List.length_append, hn])
end Go.Proofs.Ytnjkklkjlloedaa
