/- Law 17: FrameKinds. -/
import Derived.Test.YtnjkklkjlloedaaFrW0
import Derived.Test.YtnjkklkjlloedaaRfB
namespace Go.Proofs.Ytnjkklkjlloedaa
open Go.RowKit
set_option linter.unusedVariables false
set_option linter.unusedSimpArgs false
set_option maxRecDepth 10000
set_option maxHeartbeats 20000000 in
theorem FrameKinds_law (coll idx : Int) (ls : List (List UInt8)) (sum : List UInt8) (hm : ls.length ≤ 9223372036854775807) : ACalls Try.prog 13 [.int .i64 coll, .int .i64 idx, lkA ls, bsA sum] ⟨[], [], 0⟩ (fun rv _ => rv = .bool true) := by
  refine ACalls_body Try.func13 rfl rfl ?_
  simp only [Try.ntmps13, List.length_cons, List.length_nil, Nat.reduceAdd, Nat.reduceSub, List.replicate_succ, List.replicate_zero, List.cons_append, List.nil_append]
  have hS : AVal Try.prog 45 [.agg [.int .i64 0, .int .i64 coll, .int .i64 idx, lkA ls, bsA sum]] (.bool (decide (SmallF ⟨0, coll, idx, ls, sum⟩))) := small17_val ⟨0, coll, idx, ls, sum⟩ hm
  by_cases gn : ¬ SmallF ⟨0, coll, idx, ls, sum⟩
  · rw [decide_eq_false gn] at hS
    refine Run ?_ trivial trivial @anchor17_val trivial trivial trivial trivial trivial trivial trivial trivial trivial
    rfl
  have ga : SmallF ⟨0, coll, idx, ls, sum⟩ := Classical.byContradiction gn
  rw [decide_eq_true ga] at hS
  have hm2 : ls.length ≤ 12 := ga.2.1
  have hR : ∀ k : Int, AVal Try.prog 46 [.agg [.int .i64 k, .int .i64 coll, .int .i64 idx, lkA ls, bsA sum]] (.bool (decide (FrOk ⟨k, coll, idx, ls, sum⟩))) := fun k => right_val ⟨k, coll, idx, ls, sum⟩ (by dsimp only; omega)
  have hloop : ∀ (b0 : Bool), b0 = decide (1 ≤ coll ∧ coll ≤ 1099511627776 ∧ 0 ≤ idx ∧ idx ≤ 64 ∧ ls.length ≤ 8) → True := fun _ _ => trivial
  by_cases hbase : 1 ≤ coll ∧ coll ≤ 1099511627776 ∧ 0 ≤ idx ∧ idx ≤ 64 ∧ ls.length ≤ 8
  · refine Run ?_ trivial trivial @anchor17_val trivial trivial trivial trivial trivial trivial trivial trivial trivial
    refine AWP_loopS [10, 12, 44, 45, 46, 47, 48, 49, 50, 51, 52, 53, 54, 55, 56, 57, 58, 59, 60, 61] (N := Nat × Bool × List AV) (fun ⟨k, bb, js⟩ => [.bool bb, js.getD 0 .und, lkA ls, .int .i64 (ls.length : Int), .int .i64 (k : Int), js.getD 1 .und, js.getD 2 .und, js.getD 3 .und, js.getD 4 .und, js.getD 5 .und, js.getD 6 .und, js.getD 7 .und, js.getD 8 .und, js.getD 9 .und, js.getD 10 .und, js.getD 11 .und, js.getD 12 .und, js.getD 13 .und, js.getD 14 .und, js.getD 15 .und]) (fun ⟨k, bb, js⟩ => ⟨[(0, [.int .i64 0, .int .i64 coll, .int .i64 idx, lkA ls, bsA sum])], [], 1⟩) (fun ⟨k, bb, js⟩ => k ≤ ls.length ∧ (bb = true ↔ ∀ b ∈ ls.take k, lkBad b = false)) (fun ⟨k, bb, js⟩ => ls.length - k) ⟨0, true, [_, _, _, _, _, _, _, _, _, _, _, _, _, _, _, _]⟩ rfl rfl ?hi0 ?_
    rotate_left
    rintro ⟨k, bb, js⟩ sl_ hs hi
    simp only [setsF, setF, Option.some.injEq] at hs
    subst hs
    case hi0 => exact ⟨by omega, by simp⟩
    obtain ⟨hk, hn⟩ := hi
    by_cases hlt : k < ls.length
    · have hel : ls[k]? = some ls[k] := List.getElem?_eq_getElem hlt
      have hcl : (ls.map bsA)[k]? = some (bsA ls[k]) := by rw [List.getElem?_map, hel]; rfl
      generalize hx : ls[k] = x at *
      cases bb with
      | false =>
        refine Run ?_ trivial trivial trivial trivial trivial trivial trivial trivial trivial trivial trivial trivial
        refine ALoopQ_normal ⟨k + 1, false, [_, _, _, _, _, _, _, _, _, _, _, _, _, _, _, _]⟩ rfl rfl ?hi1 ?hm1
        case hi1 =>
          refine ⟨by omega, ?_⟩
          constructor
          · intro h; cases h
          · intro h
            refine hn.2 fun b hb => h b ?_
            rw [List.take_add_one]
            exact List.mem_append_left _ hb
        case hm1 => simp only; omega
      | true =>
        by_cases h1 : x.length < 1
        · refine Run ?_ trivial trivial trivial trivial trivial trivial trivial trivial trivial trivial trivial trivial
          refine ALoopQ_normal ⟨k + 1, false, [_, _, _, _, _, _, _, _, _, _, _, _, _, _, _, _]⟩ rfl rfl ?hi1 ?hm1
          case hi1 =>
            refine ⟨by omega, ?_⟩
            constructor
            · intro h; cases h
            · intro h
              have := h x (by rw [List.take_add_one, hel]; simp)
              simp only [lkBad, decide_eq_false_iff_not] at this
              omega
          case hm1 => simp only; omega
        · by_cases h2 : 4096 < x.length
          · refine Run ?_ trivial trivial trivial trivial trivial trivial trivial trivial trivial trivial trivial trivial
            refine ALoopQ_normal ⟨k + 1, false, [_, _, _, _, _, _, _, _, _, _, _, _, _, _, _, _]⟩ rfl rfl ?hi1 ?hm1
            case hi1 =>
              refine ⟨by omega, ?_⟩
              constructor
              · intro h; cases h
              · intro h
                have := h x (by rw [List.take_add_one, hel]; simp)
                simp only [lkBad, decide_eq_false_iff_not] at this
                omega
            case hm1 => simp only; omega
          · refine Run ?_ trivial trivial trivial trivial trivial trivial trivial trivial trivial trivial trivial trivial
            refine ALoopQ_normal ⟨k + 1, true, [_, _, _, _, _, _, _, _, _, _, _, _, _, _, _, _]⟩ rfl rfl ?hi1 ?hm1
            case hi1 => exact ⟨by omega, by simp only [true_iff]; exact take_succ_all hel (hn.1 rfl) (by simp only [lkBad, decide_eq_false_iff_not]; omega)⟩
            case hm1 => simp only; omega
    · obtain rfl : k = ls.length := by omega
      rw [List.take_length] at hn
      cases bb with
      | false =>
        have hno : ∀ k : Int, ¬ FrOk ⟨k, coll, idx, ls, sum⟩ := fun k => FrOk.bad (by
          dsimp only
          cases h : ls.any lkBad with
          | true => rfl
          | false => have := hn.2 (by simpa using h); cases this)
        have hw : ∀ k : Nat, k < 6 → ([AV.bool false, .bool false, .bool false, .bool false, .bool false, .bool false] : List AV)[k]? = some (.bool (decide (FrOk ⟨(k : Int), coll, idx, ls, sum⟩))) := by
          intro k hk
          rw [decide_eq_false (hno _)]
          rcases (show k = 0 ∨ k = 1 ∨ k = 2 ∨ k = 3 ∨ k = 4 ∨ k = 5 by omega) with rfl | rfl | rfl | rfl | rfl | rfl <;> rfl
        refine Run ?_ trivial trivial trivial trivial trivial trivial trivial trivial trivial trivial trivial trivial
        refine AWP_loopS [8, 14, 106, 107, 108, 109, 110, 111, 112, 113, 114, 115, 116, 117] (N := Nat × Int × List AV) (fun ⟨k, kk, js⟩ => [js.getD 0 .und, js.getD 1 .und, .int .i64 (k : Int), js.getD 2 .und, js.getD 3 .und, js.getD 4 .und, js.getD 5 .und, js.getD 6 .und, js.getD 7 .und, js.getD 8 .und, js.getD 9 .und, js.getD 10 .und, js.getD 11 .und, js.getD 12 .und]) (fun ⟨k, kk, js⟩ => ⟨[(1, [AV.bool false, .bool false, .bool false, .bool false, .bool false, .bool false]), (0, [.int .i64 kk, .int .i64 coll, .int .i64 idx, lkA ls, bsA sum])], [], 2⟩) (fun ⟨k, kk, js⟩ => k ≤ 6) (fun ⟨k, kk, js⟩ => 6 - k) ⟨0, 0, [_, _, _, _, _, _, _, _, _, _, _, _, _]⟩ rfl rfl ?hi0 ?_
        rotate_left
        rintro ⟨k, kk, js⟩ sl_ hs hi
        simp only [setsF, setF, Option.some.injEq] at hs
        subst hs
        case hi0 => simp only; omega
        by_cases hlt : k < 6
        · have hRk := hR (k : Int)
          have hWk := hw k hlt
          generalize decide (FrOk ⟨(k : Int), coll, idx, ls, sum⟩) = bk at hRk hWk
          have hWk' : ([AV.bool false, .bool false, .bool false, .bool false, .bool false, .bool false] : List AV)[0 + (k : Int).toNat * 1]? = some (.bool bk) := by rw [Int.toNat_natCast, Nat.zero_add, Nat.mul_one]; exact hWk
          have hbb : (bk != bk) = false := by cases bk <;> rfl
          refine Run ?_ trivial trivial trivial trivial trivial trivial trivial trivial trivial trivial trivial trivial
          all_goals exact ALoopQ_normal ⟨k + 1, _, [_, _, _, _, _, _, _, _, _, _, _, _, _]⟩ rfl rfl (by simp only; omega) (by simp only; omega)
        · obtain rfl : k = 6 := by simp only at hi; omega
          refine Run ?_ trivial trivial trivial trivial trivial trivial trivial trivial trivial trivial trivial trivial
          rfl
      | true =>
        have hb : ls.any lkBad = false := any_take_false (hn.1 rfl)
        by_cases c1 : ls.length = 0
        · by_cases c2 : idx = 0
          · by_cases c3 : sum.length = 0
            · have hw : ∀ k : Nat, k < 6 → ([AV.bool false, .bool false, .bool true, .bool true, .bool false, .bool false] : List AV)[k]? = some (.bool (decide (FrOk ⟨(k : Int), coll, idx, ls, sum⟩))) := by
                intro k hk
                rcases (show k = 0 ∨ k = 1 ∨ k = 2 ∨ k = 3 ∨ k = 4 ∨ k = 5 by omega) with rfl | rfl | rfl | rfl | rfl | rfl <;> (first | rw [decide_eq_true ((FrOk.good hb).2 (by dsimp only; omega))] | rw [decide_eq_false (fun h => by have := (FrOk.good hb).1 h; dsimp only at this; omega)]) <;> rfl
              refine Run ?_ trivial trivial trivial trivial trivial trivial trivial trivial trivial trivial trivial trivial
              refine AWP_loopS [8, 14, 106, 107, 108, 109, 110, 111, 112, 113, 114, 115, 116, 117] (N := Nat × Int × List AV) (fun ⟨k, kk, js⟩ => [js.getD 0 .und, js.getD 1 .und, .int .i64 (k : Int), js.getD 2 .und, js.getD 3 .und, js.getD 4 .und, js.getD 5 .und, js.getD 6 .und, js.getD 7 .und, js.getD 8 .und, js.getD 9 .und, js.getD 10 .und, js.getD 11 .und, js.getD 12 .und]) (fun ⟨k, kk, js⟩ => ⟨[(1, [AV.bool false, .bool false, .bool true, .bool true, .bool false, .bool false]), (0, [.int .i64 kk, .int .i64 coll, .int .i64 idx, lkA ls, bsA sum])], [], 2⟩) (fun ⟨k, kk, js⟩ => k ≤ 6) (fun ⟨k, kk, js⟩ => 6 - k) ⟨0, 0, [_, _, _, _, _, _, _, _, _, _, _, _, _]⟩ rfl rfl ?hi0 ?_
              rotate_left
              rintro ⟨k, kk, js⟩ sl_ hs hi
              simp only [setsF, setF, Option.some.injEq] at hs
              subst hs
              case hi0 => simp only; omega
              by_cases hlt : k < 6
              · have hRk := hR (k : Int)
                have hWk := hw k hlt
                generalize decide (FrOk ⟨(k : Int), coll, idx, ls, sum⟩) = bk at hRk hWk
                have hWk' : ([AV.bool false, .bool false, .bool true, .bool true, .bool false, .bool false] : List AV)[0 + (k : Int).toNat * 1]? = some (.bool bk) := by rw [Int.toNat_natCast, Nat.zero_add, Nat.mul_one]; exact hWk
                have hbb : (bk != bk) = false := by cases bk <;> rfl
                refine Run ?_ trivial trivial trivial trivial trivial trivial trivial trivial trivial trivial trivial trivial
                all_goals exact ALoopQ_normal ⟨k + 1, _, [_, _, _, _, _, _, _, _, _, _, _, _, _]⟩ rfl rfl (by simp only; omega) (by simp only; omega)
              · obtain rfl : k = 6 := by simp only at hi; omega
                refine Run ?_ trivial trivial trivial trivial trivial trivial trivial trivial trivial trivial trivial trivial
                rfl
            · by_cases c4 : sum.length = 32
              · have hw : ∀ k : Nat, k < 6 → ([AV.bool false, .bool false, .bool false, .bool false, .bool true, .bool false] : List AV)[k]? = some (.bool (decide (FrOk ⟨(k : Int), coll, idx, ls, sum⟩))) := by
                  intro k hk
                  rcases (show k = 0 ∨ k = 1 ∨ k = 2 ∨ k = 3 ∨ k = 4 ∨ k = 5 by omega) with rfl | rfl | rfl | rfl | rfl | rfl <;> (first | rw [decide_eq_true ((FrOk.good hb).2 (by dsimp only; omega))] | rw [decide_eq_false (fun h => by have := (FrOk.good hb).1 h; dsimp only at this; omega)]) <;> rfl
                refine Run ?_ trivial trivial trivial trivial trivial trivial trivial trivial trivial trivial trivial trivial
                refine AWP_loopS [8, 14, 106, 107, 108, 109, 110, 111, 112, 113, 114, 115, 116, 117] (N := Nat × Int × List AV) (fun ⟨k, kk, js⟩ => [js.getD 0 .und, js.getD 1 .und, .int .i64 (k : Int), js.getD 2 .und, js.getD 3 .und, js.getD 4 .und, js.getD 5 .und, js.getD 6 .und, js.getD 7 .und, js.getD 8 .und, js.getD 9 .und, js.getD 10 .und, js.getD 11 .und, js.getD 12 .und]) (fun ⟨k, kk, js⟩ => ⟨[(1, [AV.bool false, .bool false, .bool false, .bool false, .bool true, .bool false]), (0, [.int .i64 kk, .int .i64 coll, .int .i64 idx, lkA ls, bsA sum])], [], 2⟩) (fun ⟨k, kk, js⟩ => k ≤ 6) (fun ⟨k, kk, js⟩ => 6 - k) ⟨0, 0, [_, _, _, _, _, _, _, _, _, _, _, _, _]⟩ rfl rfl ?hi0 ?_
                rotate_left
                rintro ⟨k, kk, js⟩ sl_ hs hi
                simp only [setsF, setF, Option.some.injEq] at hs
                subst hs
                case hi0 => simp only; omega
                by_cases hlt : k < 6
                · have hRk := hR (k : Int)
                  have hWk := hw k hlt
                  generalize decide (FrOk ⟨(k : Int), coll, idx, ls, sum⟩) = bk at hRk hWk
                  have hWk' : ([AV.bool false, .bool false, .bool false, .bool false, .bool true, .bool false] : List AV)[0 + (k : Int).toNat * 1]? = some (.bool bk) := by rw [Int.toNat_natCast, Nat.zero_add, Nat.mul_one]; exact hWk
                  have hbb : (bk != bk) = false := by cases bk <;> rfl
                  refine Run ?_ trivial trivial trivial trivial trivial trivial trivial trivial trivial trivial trivial trivial
                  all_goals exact ALoopQ_normal ⟨k + 1, _, [_, _, _, _, _, _, _, _, _, _, _, _, _]⟩ rfl rfl (by simp only; omega) (by simp only; omega)
                · obtain rfl : k = 6 := by simp only at hi; omega
                  refine Run ?_ trivial trivial trivial trivial trivial trivial trivial trivial trivial trivial trivial trivial
                  rfl
              · have hw : ∀ k : Nat, k < 6 → ([AV.bool false, .bool false, .bool false, .bool false, .bool false, .bool false] : List AV)[k]? = some (.bool (decide (FrOk ⟨(k : Int), coll, idx, ls, sum⟩))) := by
                  intro k hk
                  rcases (show k = 0 ∨ k = 1 ∨ k = 2 ∨ k = 3 ∨ k = 4 ∨ k = 5 by omega) with rfl | rfl | rfl | rfl | rfl | rfl <;> (first | rw [decide_eq_true ((FrOk.good hb).2 (by dsimp only; omega))] | rw [decide_eq_false (fun h => by have := (FrOk.good hb).1 h; dsimp only at this; omega)]) <;> rfl
                refine Run ?_ trivial trivial trivial trivial trivial trivial trivial trivial trivial trivial trivial trivial
                refine AWP_loopS [8, 14, 106, 107, 108, 109, 110, 111, 112, 113, 114, 115, 116, 117] (N := Nat × Int × List AV) (fun ⟨k, kk, js⟩ => [js.getD 0 .und, js.getD 1 .und, .int .i64 (k : Int), js.getD 2 .und, js.getD 3 .und, js.getD 4 .und, js.getD 5 .und, js.getD 6 .und, js.getD 7 .und, js.getD 8 .und, js.getD 9 .und, js.getD 10 .und, js.getD 11 .und, js.getD 12 .und]) (fun ⟨k, kk, js⟩ => ⟨[(1, [AV.bool false, .bool false, .bool false, .bool false, .bool false, .bool false]), (0, [.int .i64 kk, .int .i64 coll, .int .i64 idx, lkA ls, bsA sum])], [], 2⟩) (fun ⟨k, kk, js⟩ => k ≤ 6) (fun ⟨k, kk, js⟩ => 6 - k) ⟨0, 0, [_, _, _, _, _, _, _, _, _, _, _, _, _]⟩ rfl rfl ?hi0 ?_
                rotate_left
                rintro ⟨k, kk, js⟩ sl_ hs hi
                simp only [setsF, setF, Option.some.injEq] at hs
                subst hs
                case hi0 => simp only; omega
                by_cases hlt : k < 6
                · have hRk := hR (k : Int)
                  have hWk := hw k hlt
                  generalize decide (FrOk ⟨(k : Int), coll, idx, ls, sum⟩) = bk at hRk hWk
                  have hWk' : ([AV.bool false, .bool false, .bool false, .bool false, .bool false, .bool false] : List AV)[0 + (k : Int).toNat * 1]? = some (.bool bk) := by rw [Int.toNat_natCast, Nat.zero_add, Nat.mul_one]; exact hWk
                  have hbb : (bk != bk) = false := by cases bk <;> rfl
                  refine Run ?_ trivial trivial trivial trivial trivial trivial trivial trivial trivial trivial trivial trivial
                  all_goals exact ALoopQ_normal ⟨k + 1, _, [_, _, _, _, _, _, _, _, _, _, _, _, _]⟩ rfl rfl (by simp only; omega) (by simp only; omega)
                · obtain rfl : k = 6 := by simp only at hi; omega
                  refine Run ?_ trivial trivial trivial trivial trivial trivial trivial trivial trivial trivial trivial trivial
                  rfl
          · by_cases c3 : sum.length = 0
            · have hw : ∀ k : Nat, k < 6 → ([AV.bool false, .bool false, .bool true, .bool true, .bool false, .bool false] : List AV)[k]? = some (.bool (decide (FrOk ⟨(k : Int), coll, idx, ls, sum⟩))) := by
                intro k hk
                rcases (show k = 0 ∨ k = 1 ∨ k = 2 ∨ k = 3 ∨ k = 4 ∨ k = 5 by omega) with rfl | rfl | rfl | rfl | rfl | rfl <;> (first | rw [decide_eq_true ((FrOk.good hb).2 (by dsimp only; omega))] | rw [decide_eq_false (fun h => by have := (FrOk.good hb).1 h; dsimp only at this; omega)]) <;> rfl
              refine Run ?_ trivial trivial trivial trivial trivial trivial trivial trivial trivial trivial trivial trivial
              refine AWP_loopS [8, 14, 106, 107, 108, 109, 110, 111, 112, 113, 114, 115, 116, 117] (N := Nat × Int × List AV) (fun ⟨k, kk, js⟩ => [js.getD 0 .und, js.getD 1 .und, .int .i64 (k : Int), js.getD 2 .und, js.getD 3 .und, js.getD 4 .und, js.getD 5 .und, js.getD 6 .und, js.getD 7 .und, js.getD 8 .und, js.getD 9 .und, js.getD 10 .und, js.getD 11 .und, js.getD 12 .und]) (fun ⟨k, kk, js⟩ => ⟨[(1, [AV.bool false, .bool false, .bool true, .bool true, .bool false, .bool false]), (0, [.int .i64 kk, .int .i64 coll, .int .i64 idx, lkA ls, bsA sum])], [], 2⟩) (fun ⟨k, kk, js⟩ => k ≤ 6) (fun ⟨k, kk, js⟩ => 6 - k) ⟨0, 0, [_, _, _, _, _, _, _, _, _, _, _, _, _]⟩ rfl rfl ?hi0 ?_
              rotate_left
              rintro ⟨k, kk, js⟩ sl_ hs hi
              simp only [setsF, setF, Option.some.injEq] at hs
              subst hs
              case hi0 => simp only; omega
              by_cases hlt : k < 6
              · have hRk := hR (k : Int)
                have hWk := hw k hlt
                generalize decide (FrOk ⟨(k : Int), coll, idx, ls, sum⟩) = bk at hRk hWk
                have hWk' : ([AV.bool false, .bool false, .bool true, .bool true, .bool false, .bool false] : List AV)[0 + (k : Int).toNat * 1]? = some (.bool bk) := by rw [Int.toNat_natCast, Nat.zero_add, Nat.mul_one]; exact hWk
                have hbb : (bk != bk) = false := by cases bk <;> rfl
                refine Run ?_ trivial trivial trivial trivial trivial trivial trivial trivial trivial trivial trivial trivial
                all_goals exact ALoopQ_normal ⟨k + 1, _, [_, _, _, _, _, _, _, _, _, _, _, _, _]⟩ rfl rfl (by simp only; omega) (by simp only; omega)
              · obtain rfl : k = 6 := by simp only at hi; omega
                refine Run ?_ trivial trivial trivial trivial trivial trivial trivial trivial trivial trivial trivial trivial
                rfl
            · by_cases c4 : sum.length = 32
              · have hw : ∀ k : Nat, k < 6 → ([AV.bool false, .bool false, .bool false, .bool false, .bool true, .bool false] : List AV)[k]? = some (.bool (decide (FrOk ⟨(k : Int), coll, idx, ls, sum⟩))) := by
                  intro k hk
                  rcases (show k = 0 ∨ k = 1 ∨ k = 2 ∨ k = 3 ∨ k = 4 ∨ k = 5 by omega) with rfl | rfl | rfl | rfl | rfl | rfl <;> (first | rw [decide_eq_true ((FrOk.good hb).2 (by dsimp only; omega))] | rw [decide_eq_false (fun h => by have := (FrOk.good hb).1 h; dsimp only at this; omega)]) <;> rfl
                refine Run ?_ trivial trivial trivial trivial trivial trivial trivial trivial trivial trivial trivial trivial
                refine AWP_loopS [8, 14, 106, 107, 108, 109, 110, 111, 112, 113, 114, 115, 116, 117] (N := Nat × Int × List AV) (fun ⟨k, kk, js⟩ => [js.getD 0 .und, js.getD 1 .und, .int .i64 (k : Int), js.getD 2 .und, js.getD 3 .und, js.getD 4 .und, js.getD 5 .und, js.getD 6 .und, js.getD 7 .und, js.getD 8 .und, js.getD 9 .und, js.getD 10 .und, js.getD 11 .und, js.getD 12 .und]) (fun ⟨k, kk, js⟩ => ⟨[(1, [AV.bool false, .bool false, .bool false, .bool false, .bool true, .bool false]), (0, [.int .i64 kk, .int .i64 coll, .int .i64 idx, lkA ls, bsA sum])], [], 2⟩) (fun ⟨k, kk, js⟩ => k ≤ 6) (fun ⟨k, kk, js⟩ => 6 - k) ⟨0, 0, [_, _, _, _, _, _, _, _, _, _, _, _, _]⟩ rfl rfl ?hi0 ?_
                rotate_left
                rintro ⟨k, kk, js⟩ sl_ hs hi
                simp only [setsF, setF, Option.some.injEq] at hs
                subst hs
                case hi0 => simp only; omega
                by_cases hlt : k < 6
                · have hRk := hR (k : Int)
                  have hWk := hw k hlt
                  generalize decide (FrOk ⟨(k : Int), coll, idx, ls, sum⟩) = bk at hRk hWk
                  have hWk' : ([AV.bool false, .bool false, .bool false, .bool false, .bool true, .bool false] : List AV)[0 + (k : Int).toNat * 1]? = some (.bool bk) := by rw [Int.toNat_natCast, Nat.zero_add, Nat.mul_one]; exact hWk
                  have hbb : (bk != bk) = false := by cases bk <;> rfl
                  refine Run ?_ trivial trivial trivial trivial trivial trivial trivial trivial trivial trivial trivial trivial
                  all_goals exact ALoopQ_normal ⟨k + 1, _, [_, _, _, _, _, _, _, _, _, _, _, _, _]⟩ rfl rfl (by simp only; omega) (by simp only; omega)
                · obtain rfl : k = 6 := by simp only at hi; omega
                  refine Run ?_ trivial trivial trivial trivial trivial trivial trivial trivial trivial trivial trivial trivial
                  rfl
              · have hw : ∀ k : Nat, k < 6 → ([AV.bool false, .bool false, .bool false, .bool false, .bool false, .bool false] : List AV)[k]? = some (.bool (decide (FrOk ⟨(k : Int), coll, idx, ls, sum⟩))) := by
                  intro k hk
                  rcases (show k = 0 ∨ k = 1 ∨ k = 2 ∨ k = 3 ∨ k = 4 ∨ k = 5 by omega) with rfl | rfl | rfl | rfl | rfl | rfl <;> (first | rw [decide_eq_true ((FrOk.good hb).2 (by dsimp only; omega))] | rw [decide_eq_false (fun h => by have := (FrOk.good hb).1 h; dsimp only at this; omega)]) <;> rfl
                refine Run ?_ trivial trivial trivial trivial trivial trivial trivial trivial trivial trivial trivial trivial
                refine AWP_loopS [8, 14, 106, 107, 108, 109, 110, 111, 112, 113, 114, 115, 116, 117] (N := Nat × Int × List AV) (fun ⟨k, kk, js⟩ => [js.getD 0 .und, js.getD 1 .und, .int .i64 (k : Int), js.getD 2 .und, js.getD 3 .und, js.getD 4 .und, js.getD 5 .und, js.getD 6 .und, js.getD 7 .und, js.getD 8 .und, js.getD 9 .und, js.getD 10 .und, js.getD 11 .und, js.getD 12 .und]) (fun ⟨k, kk, js⟩ => ⟨[(1, [AV.bool false, .bool false, .bool false, .bool false, .bool false, .bool false]), (0, [.int .i64 kk, .int .i64 coll, .int .i64 idx, lkA ls, bsA sum])], [], 2⟩) (fun ⟨k, kk, js⟩ => k ≤ 6) (fun ⟨k, kk, js⟩ => 6 - k) ⟨0, 0, [_, _, _, _, _, _, _, _, _, _, _, _, _]⟩ rfl rfl ?hi0 ?_
                rotate_left
                rintro ⟨k, kk, js⟩ sl_ hs hi
                simp only [setsF, setF, Option.some.injEq] at hs
                subst hs
                case hi0 => simp only; omega
                by_cases hlt : k < 6
                · have hRk := hR (k : Int)
                  have hWk := hw k hlt
                  generalize decide (FrOk ⟨(k : Int), coll, idx, ls, sum⟩) = bk at hRk hWk
                  have hWk' : ([AV.bool false, .bool false, .bool false, .bool false, .bool false, .bool false] : List AV)[0 + (k : Int).toNat * 1]? = some (.bool bk) := by rw [Int.toNat_natCast, Nat.zero_add, Nat.mul_one]; exact hWk
                  have hbb : (bk != bk) = false := by cases bk <;> rfl
                  refine Run ?_ trivial trivial trivial trivial trivial trivial trivial trivial trivial trivial trivial trivial
                  all_goals exact ALoopQ_normal ⟨k + 1, _, [_, _, _, _, _, _, _, _, _, _, _, _, _]⟩ rfl rfl (by simp only; omega) (by simp only; omega)
                · obtain rfl : k = 6 := by simp only at hi; omega
                  refine Run ?_ trivial trivial trivial trivial trivial trivial trivial trivial trivial trivial trivial trivial
                  rfl
        · by_cases c2 : idx = 0
          · by_cases c3 : sum.length = 0
            · have hw : ∀ k : Nat, k < 6 → ([AV.bool false, .bool true, .bool false, .bool true, .bool false, .bool false] : List AV)[k]? = some (.bool (decide (FrOk ⟨(k : Int), coll, idx, ls, sum⟩))) := by
                intro k hk
                rcases (show k = 0 ∨ k = 1 ∨ k = 2 ∨ k = 3 ∨ k = 4 ∨ k = 5 by omega) with rfl | rfl | rfl | rfl | rfl | rfl <;> (first | rw [decide_eq_true ((FrOk.good hb).2 (by dsimp only; omega))] | rw [decide_eq_false (fun h => by have := (FrOk.good hb).1 h; dsimp only at this; omega)]) <;> rfl
              refine Run ?_ trivial trivial trivial trivial trivial trivial trivial trivial trivial trivial trivial trivial
              refine AWP_loopS [8, 14, 106, 107, 108, 109, 110, 111, 112, 113, 114, 115, 116, 117] (N := Nat × Int × List AV) (fun ⟨k, kk, js⟩ => [js.getD 0 .und, js.getD 1 .und, .int .i64 (k : Int), js.getD 2 .und, js.getD 3 .und, js.getD 4 .und, js.getD 5 .und, js.getD 6 .und, js.getD 7 .und, js.getD 8 .und, js.getD 9 .und, js.getD 10 .und, js.getD 11 .und, js.getD 12 .und]) (fun ⟨k, kk, js⟩ => ⟨[(1, [AV.bool false, .bool true, .bool false, .bool true, .bool false, .bool false]), (0, [.int .i64 kk, .int .i64 coll, .int .i64 idx, lkA ls, bsA sum])], [], 2⟩) (fun ⟨k, kk, js⟩ => k ≤ 6) (fun ⟨k, kk, js⟩ => 6 - k) ⟨0, 0, [_, _, _, _, _, _, _, _, _, _, _, _, _]⟩ rfl rfl ?hi0 ?_
              rotate_left
              rintro ⟨k, kk, js⟩ sl_ hs hi
              simp only [setsF, setF, Option.some.injEq] at hs
              subst hs
              case hi0 => simp only; omega
              by_cases hlt : k < 6
              · have hRk := hR (k : Int)
                have hWk := hw k hlt
                generalize decide (FrOk ⟨(k : Int), coll, idx, ls, sum⟩) = bk at hRk hWk
                have hWk' : ([AV.bool false, .bool true, .bool false, .bool true, .bool false, .bool false] : List AV)[0 + (k : Int).toNat * 1]? = some (.bool bk) := by rw [Int.toNat_natCast, Nat.zero_add, Nat.mul_one]; exact hWk
                have hbb : (bk != bk) = false := by cases bk <;> rfl
                refine Run ?_ trivial trivial trivial trivial trivial trivial trivial trivial trivial trivial trivial trivial
                all_goals exact ALoopQ_normal ⟨k + 1, _, [_, _, _, _, _, _, _, _, _, _, _, _, _]⟩ rfl rfl (by simp only; omega) (by simp only; omega)
              · obtain rfl : k = 6 := by simp only at hi; omega
                refine Run ?_ trivial trivial trivial trivial trivial trivial trivial trivial trivial trivial trivial trivial
                rfl
            · by_cases c4 : sum.length = 32
              · have hw : ∀ k : Nat, k < 6 → ([AV.bool false, .bool false, .bool false, .bool false, .bool false, .bool false] : List AV)[k]? = some (.bool (decide (FrOk ⟨(k : Int), coll, idx, ls, sum⟩))) := by
                  intro k hk
                  rcases (show k = 0 ∨ k = 1 ∨ k = 2 ∨ k = 3 ∨ k = 4 ∨ k = 5 by omega) with rfl | rfl | rfl | rfl | rfl | rfl <;> (first | rw [decide_eq_true ((FrOk.good hb).2 (by dsimp only; omega))] | rw [decide_eq_false (fun h => by have := (FrOk.good hb).1 h; dsimp only at this; omega)]) <;> rfl
                refine Run ?_ trivial trivial trivial trivial trivial trivial trivial trivial trivial trivial trivial trivial
                refine AWP_loopS [8, 14, 106, 107, 108, 109, 110, 111, 112, 113, 114, 115, 116, 117] (N := Nat × Int × List AV) (fun ⟨k, kk, js⟩ => [js.getD 0 .und, js.getD 1 .und, .int .i64 (k : Int), js.getD 2 .und, js.getD 3 .und, js.getD 4 .und, js.getD 5 .und, js.getD 6 .und, js.getD 7 .und, js.getD 8 .und, js.getD 9 .und, js.getD 10 .und, js.getD 11 .und, js.getD 12 .und]) (fun ⟨k, kk, js⟩ => ⟨[(1, [AV.bool false, .bool false, .bool false, .bool false, .bool false, .bool false]), (0, [.int .i64 kk, .int .i64 coll, .int .i64 idx, lkA ls, bsA sum])], [], 2⟩) (fun ⟨k, kk, js⟩ => k ≤ 6) (fun ⟨k, kk, js⟩ => 6 - k) ⟨0, 0, [_, _, _, _, _, _, _, _, _, _, _, _, _]⟩ rfl rfl ?hi0 ?_
                rotate_left
                rintro ⟨k, kk, js⟩ sl_ hs hi
                simp only [setsF, setF, Option.some.injEq] at hs
                subst hs
                case hi0 => simp only; omega
                by_cases hlt : k < 6
                · have hRk := hR (k : Int)
                  have hWk := hw k hlt
                  generalize decide (FrOk ⟨(k : Int), coll, idx, ls, sum⟩) = bk at hRk hWk
                  have hWk' : ([AV.bool false, .bool false, .bool false, .bool false, .bool false, .bool false] : List AV)[0 + (k : Int).toNat * 1]? = some (.bool bk) := by rw [Int.toNat_natCast, Nat.zero_add, Nat.mul_one]; exact hWk
                  have hbb : (bk != bk) = false := by cases bk <;> rfl
                  refine Run ?_ trivial trivial trivial trivial trivial trivial trivial trivial trivial trivial trivial trivial
                  all_goals exact ALoopQ_normal ⟨k + 1, _, [_, _, _, _, _, _, _, _, _, _, _, _, _]⟩ rfl rfl (by simp only; omega) (by simp only; omega)
                · obtain rfl : k = 6 := by simp only at hi; omega
                  refine Run ?_ trivial trivial trivial trivial trivial trivial trivial trivial trivial trivial trivial trivial
                  rfl
              · have hw : ∀ k : Nat, k < 6 → ([AV.bool false, .bool false, .bool false, .bool false, .bool false, .bool false] : List AV)[k]? = some (.bool (decide (FrOk ⟨(k : Int), coll, idx, ls, sum⟩))) := by
                  intro k hk
                  rcases (show k = 0 ∨ k = 1 ∨ k = 2 ∨ k = 3 ∨ k = 4 ∨ k = 5 by omega) with rfl | rfl | rfl | rfl | rfl | rfl <;> (first | rw [decide_eq_true ((FrOk.good hb).2 (by dsimp only; omega))] | rw [decide_eq_false (fun h => by have := (FrOk.good hb).1 h; dsimp only at this; omega)]) <;> rfl
                refine Run ?_ trivial trivial trivial trivial trivial trivial trivial trivial trivial trivial trivial trivial
                refine AWP_loopS [8, 14, 106, 107, 108, 109, 110, 111, 112, 113, 114, 115, 116, 117] (N := Nat × Int × List AV) (fun ⟨k, kk, js⟩ => [js.getD 0 .und, js.getD 1 .und, .int .i64 (k : Int), js.getD 2 .und, js.getD 3 .und, js.getD 4 .und, js.getD 5 .und, js.getD 6 .und, js.getD 7 .und, js.getD 8 .und, js.getD 9 .und, js.getD 10 .und, js.getD 11 .und, js.getD 12 .und]) (fun ⟨k, kk, js⟩ => ⟨[(1, [AV.bool false, .bool false, .bool false, .bool false, .bool false, .bool false]), (0, [.int .i64 kk, .int .i64 coll, .int .i64 idx, lkA ls, bsA sum])], [], 2⟩) (fun ⟨k, kk, js⟩ => k ≤ 6) (fun ⟨k, kk, js⟩ => 6 - k) ⟨0, 0, [_, _, _, _, _, _, _, _, _, _, _, _, _]⟩ rfl rfl ?hi0 ?_
                rotate_left
                rintro ⟨k, kk, js⟩ sl_ hs hi
                simp only [setsF, setF, Option.some.injEq] at hs
                subst hs
                case hi0 => simp only; omega
                by_cases hlt : k < 6
                · have hRk := hR (k : Int)
                  have hWk := hw k hlt
                  generalize decide (FrOk ⟨(k : Int), coll, idx, ls, sum⟩) = bk at hRk hWk
                  have hWk' : ([AV.bool false, .bool false, .bool false, .bool false, .bool false, .bool false] : List AV)[0 + (k : Int).toNat * 1]? = some (.bool bk) := by rw [Int.toNat_natCast, Nat.zero_add, Nat.mul_one]; exact hWk
                  have hbb : (bk != bk) = false := by cases bk <;> rfl
                  refine Run ?_ trivial trivial trivial trivial trivial trivial trivial trivial trivial trivial trivial trivial
                  all_goals exact ALoopQ_normal ⟨k + 1, _, [_, _, _, _, _, _, _, _, _, _, _, _, _]⟩ rfl rfl (by simp only; omega) (by simp only; omega)
                · obtain rfl : k = 6 := by simp only at hi; omega
                  refine Run ?_ trivial trivial trivial trivial trivial trivial trivial trivial trivial trivial trivial trivial
                  rfl
          · by_cases c3 : sum.length = 0
            · have hw : ∀ k : Nat, k < 6 → ([AV.bool false, .bool false, .bool false, .bool true, .bool false, .bool false] : List AV)[k]? = some (.bool (decide (FrOk ⟨(k : Int), coll, idx, ls, sum⟩))) := by
                intro k hk
                rcases (show k = 0 ∨ k = 1 ∨ k = 2 ∨ k = 3 ∨ k = 4 ∨ k = 5 by omega) with rfl | rfl | rfl | rfl | rfl | rfl <;> (first | rw [decide_eq_true ((FrOk.good hb).2 (by dsimp only; omega))] | rw [decide_eq_false (fun h => by have := (FrOk.good hb).1 h; dsimp only at this; omega)]) <;> rfl
              refine Run ?_ trivial trivial trivial trivial trivial trivial trivial trivial trivial trivial trivial trivial
              refine AWP_loopS [8, 14, 106, 107, 108, 109, 110, 111, 112, 113, 114, 115, 116, 117] (N := Nat × Int × List AV) (fun ⟨k, kk, js⟩ => [js.getD 0 .und, js.getD 1 .und, .int .i64 (k : Int), js.getD 2 .und, js.getD 3 .und, js.getD 4 .und, js.getD 5 .und, js.getD 6 .und, js.getD 7 .und, js.getD 8 .und, js.getD 9 .und, js.getD 10 .und, js.getD 11 .und, js.getD 12 .und]) (fun ⟨k, kk, js⟩ => ⟨[(1, [AV.bool false, .bool false, .bool false, .bool true, .bool false, .bool false]), (0, [.int .i64 kk, .int .i64 coll, .int .i64 idx, lkA ls, bsA sum])], [], 2⟩) (fun ⟨k, kk, js⟩ => k ≤ 6) (fun ⟨k, kk, js⟩ => 6 - k) ⟨0, 0, [_, _, _, _, _, _, _, _, _, _, _, _, _]⟩ rfl rfl ?hi0 ?_
              rotate_left
              rintro ⟨k, kk, js⟩ sl_ hs hi
              simp only [setsF, setF, Option.some.injEq] at hs
              subst hs
              case hi0 => simp only; omega
              by_cases hlt : k < 6
              · have hRk := hR (k : Int)
                have hWk := hw k hlt
                generalize decide (FrOk ⟨(k : Int), coll, idx, ls, sum⟩) = bk at hRk hWk
                have hWk' : ([AV.bool false, .bool false, .bool false, .bool true, .bool false, .bool false] : List AV)[0 + (k : Int).toNat * 1]? = some (.bool bk) := by rw [Int.toNat_natCast, Nat.zero_add, Nat.mul_one]; exact hWk
                have hbb : (bk != bk) = false := by cases bk <;> rfl
                refine Run ?_ trivial trivial trivial trivial trivial trivial trivial trivial trivial trivial trivial trivial
                all_goals exact ALoopQ_normal ⟨k + 1, _, [_, _, _, _, _, _, _, _, _, _, _, _, _]⟩ rfl rfl (by simp only; omega) (by simp only; omega)
              · obtain rfl : k = 6 := by simp only at hi; omega
                refine Run ?_ trivial trivial trivial trivial trivial trivial trivial trivial trivial trivial trivial trivial
                rfl
            · by_cases c4 : sum.length = 32
              · have hw : ∀ k : Nat, k < 6 → ([AV.bool false, .bool false, .bool false, .bool false, .bool false, .bool false] : List AV)[k]? = some (.bool (decide (FrOk ⟨(k : Int), coll, idx, ls, sum⟩))) := by
                  intro k hk
                  rcases (show k = 0 ∨ k = 1 ∨ k = 2 ∨ k = 3 ∨ k = 4 ∨ k = 5 by omega) with rfl | rfl | rfl | rfl | rfl | rfl <;> (first | rw [decide_eq_true ((FrOk.good hb).2 (by dsimp only; omega))] | rw [decide_eq_false (fun h => by have := (FrOk.good hb).1 h; dsimp only at this; omega)]) <;> rfl
                refine Run ?_ trivial trivial trivial trivial trivial trivial trivial trivial trivial trivial trivial trivial
                refine AWP_loopS [8, 14, 106, 107, 108, 109, 110, 111, 112, 113, 114, 115, 116, 117] (N := Nat × Int × List AV) (fun ⟨k, kk, js⟩ => [js.getD 0 .und, js.getD 1 .und, .int .i64 (k : Int), js.getD 2 .und, js.getD 3 .und, js.getD 4 .und, js.getD 5 .und, js.getD 6 .und, js.getD 7 .und, js.getD 8 .und, js.getD 9 .und, js.getD 10 .und, js.getD 11 .und, js.getD 12 .und]) (fun ⟨k, kk, js⟩ => ⟨[(1, [AV.bool false, .bool false, .bool false, .bool false, .bool false, .bool false]), (0, [.int .i64 kk, .int .i64 coll, .int .i64 idx, lkA ls, bsA sum])], [], 2⟩) (fun ⟨k, kk, js⟩ => k ≤ 6) (fun ⟨k, kk, js⟩ => 6 - k) ⟨0, 0, [_, _, _, _, _, _, _, _, _, _, _, _, _]⟩ rfl rfl ?hi0 ?_
                rotate_left
                rintro ⟨k, kk, js⟩ sl_ hs hi
                simp only [setsF, setF, Option.some.injEq] at hs
                subst hs
                case hi0 => simp only; omega
                by_cases hlt : k < 6
                · have hRk := hR (k : Int)
                  have hWk := hw k hlt
                  generalize decide (FrOk ⟨(k : Int), coll, idx, ls, sum⟩) = bk at hRk hWk
                  have hWk' : ([AV.bool false, .bool false, .bool false, .bool false, .bool false, .bool false] : List AV)[0 + (k : Int).toNat * 1]? = some (.bool bk) := by rw [Int.toNat_natCast, Nat.zero_add, Nat.mul_one]; exact hWk
                  have hbb : (bk != bk) = false := by cases bk <;> rfl
                  refine Run ?_ trivial trivial trivial trivial trivial trivial trivial trivial trivial trivial trivial trivial
                  all_goals exact ALoopQ_normal ⟨k + 1, _, [_, _, _, _, _, _, _, _, _, _, _, _, _]⟩ rfl rfl (by simp only; omega) (by simp only; omega)
                · obtain rfl : k = 6 := by simp only at hi; omega
                  refine Run ?_ trivial trivial trivial trivial trivial trivial trivial trivial trivial trivial trivial trivial
                  rfl
              · have hw : ∀ k : Nat, k < 6 → ([AV.bool false, .bool false, .bool false, .bool false, .bool false, .bool false] : List AV)[k]? = some (.bool (decide (FrOk ⟨(k : Int), coll, idx, ls, sum⟩))) := by
                  intro k hk
                  rcases (show k = 0 ∨ k = 1 ∨ k = 2 ∨ k = 3 ∨ k = 4 ∨ k = 5 by omega) with rfl | rfl | rfl | rfl | rfl | rfl <;> (first | rw [decide_eq_true ((FrOk.good hb).2 (by dsimp only; omega))] | rw [decide_eq_false (fun h => by have := (FrOk.good hb).1 h; dsimp only at this; omega)]) <;> rfl
                refine Run ?_ trivial trivial trivial trivial trivial trivial trivial trivial trivial trivial trivial trivial
                refine AWP_loopS [8, 14, 106, 107, 108, 109, 110, 111, 112, 113, 114, 115, 116, 117] (N := Nat × Int × List AV) (fun ⟨k, kk, js⟩ => [js.getD 0 .und, js.getD 1 .und, .int .i64 (k : Int), js.getD 2 .und, js.getD 3 .und, js.getD 4 .und, js.getD 5 .und, js.getD 6 .und, js.getD 7 .und, js.getD 8 .und, js.getD 9 .und, js.getD 10 .und, js.getD 11 .und, js.getD 12 .und]) (fun ⟨k, kk, js⟩ => ⟨[(1, [AV.bool false, .bool false, .bool false, .bool false, .bool false, .bool false]), (0, [.int .i64 kk, .int .i64 coll, .int .i64 idx, lkA ls, bsA sum])], [], 2⟩) (fun ⟨k, kk, js⟩ => k ≤ 6) (fun ⟨k, kk, js⟩ => 6 - k) ⟨0, 0, [_, _, _, _, _, _, _, _, _, _, _, _, _]⟩ rfl rfl ?hi0 ?_
                rotate_left
                rintro ⟨k, kk, js⟩ sl_ hs hi
                simp only [setsF, setF, Option.some.injEq] at hs
                subst hs
                case hi0 => simp only; omega
                by_cases hlt : k < 6
                · have hRk := hR (k : Int)
                  have hWk := hw k hlt
                  generalize decide (FrOk ⟨(k : Int), coll, idx, ls, sum⟩) = bk at hRk hWk
                  have hWk' : ([AV.bool false, .bool false, .bool false, .bool false, .bool false, .bool false] : List AV)[0 + (k : Int).toNat * 1]? = some (.bool bk) := by rw [Int.toNat_natCast, Nat.zero_add, Nat.mul_one]; exact hWk
                  have hbb : (bk != bk) = false := by cases bk <;> rfl
                  refine Run ?_ trivial trivial trivial trivial trivial trivial trivial trivial trivial trivial trivial trivial
                  all_goals exact ALoopQ_normal ⟨k + 1, _, [_, _, _, _, _, _, _, _, _, _, _, _, _]⟩ rfl rfl (by simp only; omega) (by simp only; omega)
                · obtain rfl : k = 6 := by simp only at hi; omega
                  refine Run ?_ trivial trivial trivial trivial trivial trivial trivial trivial trivial trivial trivial trivial
                  rfl
  · have hno : ∀ k : Int, ¬ FrOk ⟨k, coll, idx, ls, sum⟩ := fun k h => hbase ⟨h.1, h.2.1, h.2.2.1, h.2.2.2.1, h.links.1⟩
    by_cases a1 : 1 ≤ coll
    · by_cases a2 : coll ≤ 1099511627776
      · by_cases a3 : 0 ≤ idx
        · by_cases a4 : idx ≤ 64
          · refine Run ?_ trivial trivial @anchor17_val trivial trivial trivial trivial trivial trivial trivial trivial trivial
            refine AWP_loopS [10, 12, 44, 45, 46, 47, 48, 49, 50, 51, 52, 53, 54, 55, 56, 57, 58, 59, 60, 61] (N := Nat × List AV) (fun ⟨k, js⟩ => [.bool false, js.getD 0 .und, lkA ls, .int .i64 (ls.length : Int), .int .i64 (k : Int), js.getD 1 .und, js.getD 2 .und, js.getD 3 .und, js.getD 4 .und, js.getD 5 .und, js.getD 6 .und, js.getD 7 .und, js.getD 8 .und, js.getD 9 .und, js.getD 10 .und, js.getD 11 .und, js.getD 12 .und, js.getD 13 .und, js.getD 14 .und, js.getD 15 .und]) (fun ⟨k, js⟩ => ⟨[(0, [.int .i64 0, .int .i64 coll, .int .i64 idx, lkA ls, bsA sum])], [], 1⟩) (fun ⟨k, js⟩ => k ≤ ls.length) (fun ⟨k, js⟩ => ls.length - k) ⟨0, [_, _, _, _, _, _, _, _, _, _, _, _, _, _, _, _]⟩ rfl rfl ?hi0 ?_
            rotate_left
            rintro ⟨k, js⟩ sl_ hs hi
            simp only [setsF, setF, Option.some.injEq] at hs
            subst hs
            case hi0 => exact Nat.zero_le _
            by_cases hlt : k < ls.length
            · have hel : ls[k]? = some ls[k] := List.getElem?_eq_getElem hlt
              have hcl : (ls.map bsA)[k]? = some (bsA ls[k]) := by rw [List.getElem?_map, hel]; rfl
              generalize hx : ls[k] = x at *
              refine Run ?_ trivial trivial trivial trivial trivial trivial trivial trivial trivial trivial trivial trivial
              refine ALoopQ_normal ⟨k + 1, [_, _, _, _, _, _, _, _, _, _, _, _, _, _, _, _]⟩ rfl rfl ?hi1 ?hm1
              case hi1 => simp only; omega
              case hm1 => simp only; omega
            · obtain rfl : k = ls.length := by simp only at hi; omega
              have hw : ∀ k : Nat, k < 6 → ([AV.bool false, .bool false, .bool false, .bool false, .bool false, .bool false] : List AV)[k]? = some (.bool (decide (FrOk ⟨(k : Int), coll, idx, ls, sum⟩))) := by
                intro k hk
                rw [decide_eq_false (hno _)]
                rcases (show k = 0 ∨ k = 1 ∨ k = 2 ∨ k = 3 ∨ k = 4 ∨ k = 5 by omega) with rfl | rfl | rfl | rfl | rfl | rfl <;> rfl
              refine Run ?_ trivial trivial trivial trivial trivial trivial trivial trivial trivial trivial trivial trivial
              refine AWP_loopS [8, 14, 106, 107, 108, 109, 110, 111, 112, 113, 114, 115, 116, 117] (N := Nat × Int × List AV) (fun ⟨k, kk, js⟩ => [js.getD 0 .und, js.getD 1 .und, .int .i64 (k : Int), js.getD 2 .und, js.getD 3 .und, js.getD 4 .und, js.getD 5 .und, js.getD 6 .und, js.getD 7 .und, js.getD 8 .und, js.getD 9 .und, js.getD 10 .und, js.getD 11 .und, js.getD 12 .und]) (fun ⟨k, kk, js⟩ => ⟨[(1, [AV.bool false, .bool false, .bool false, .bool false, .bool false, .bool false]), (0, [.int .i64 kk, .int .i64 coll, .int .i64 idx, lkA ls, bsA sum])], [], 2⟩) (fun ⟨k, kk, js⟩ => k ≤ 6) (fun ⟨k, kk, js⟩ => 6 - k) ⟨0, 0, [_, _, _, _, _, _, _, _, _, _, _, _, _]⟩ rfl rfl ?hi0 ?_
              rotate_left
              rintro ⟨k, kk, js⟩ sl_ hs hi
              simp only [setsF, setF, Option.some.injEq] at hs
              subst hs
              case hi0 => simp only; omega
              by_cases hlt : k < 6
              · have hRk := hR (k : Int)
                have hWk := hw k hlt
                generalize decide (FrOk ⟨(k : Int), coll, idx, ls, sum⟩) = bk at hRk hWk
                have hWk' : ([AV.bool false, .bool false, .bool false, .bool false, .bool false, .bool false] : List AV)[0 + (k : Int).toNat * 1]? = some (.bool bk) := by rw [Int.toNat_natCast, Nat.zero_add, Nat.mul_one]; exact hWk
                have hbb : (bk != bk) = false := by cases bk <;> rfl
                refine Run ?_ trivial trivial trivial trivial trivial trivial trivial trivial trivial trivial trivial trivial
                all_goals exact ALoopQ_normal ⟨k + 1, _, [_, _, _, _, _, _, _, _, _, _, _, _, _]⟩ rfl rfl (by simp only; omega) (by simp only; omega)
              · obtain rfl : k = 6 := by simp only at hi; omega
                refine Run ?_ trivial trivial trivial trivial trivial trivial trivial trivial trivial trivial trivial trivial
                rfl
          · refine Run ?_ trivial trivial @anchor17_val trivial trivial trivial trivial trivial trivial trivial trivial trivial
            refine AWP_loopS [10, 12, 44, 45, 46, 47, 48, 49, 50, 51, 52, 53, 54, 55, 56, 57, 58, 59, 60, 61] (N := Nat × List AV) (fun ⟨k, js⟩ => [.bool false, js.getD 0 .und, lkA ls, .int .i64 (ls.length : Int), .int .i64 (k : Int), js.getD 1 .und, js.getD 2 .und, js.getD 3 .und, js.getD 4 .und, js.getD 5 .und, js.getD 6 .und, js.getD 7 .und, js.getD 8 .und, js.getD 9 .und, js.getD 10 .und, js.getD 11 .und, js.getD 12 .und, js.getD 13 .und, js.getD 14 .und, js.getD 15 .und]) (fun ⟨k, js⟩ => ⟨[(0, [.int .i64 0, .int .i64 coll, .int .i64 idx, lkA ls, bsA sum])], [], 1⟩) (fun ⟨k, js⟩ => k ≤ ls.length) (fun ⟨k, js⟩ => ls.length - k) ⟨0, [_, _, _, _, _, _, _, _, _, _, _, _, _, _, _, _]⟩ rfl rfl ?hi0 ?_
            rotate_left
            rintro ⟨k, js⟩ sl_ hs hi
            simp only [setsF, setF, Option.some.injEq] at hs
            subst hs
            case hi0 => exact Nat.zero_le _
            by_cases hlt : k < ls.length
            · have hel : ls[k]? = some ls[k] := List.getElem?_eq_getElem hlt
              have hcl : (ls.map bsA)[k]? = some (bsA ls[k]) := by rw [List.getElem?_map, hel]; rfl
              generalize hx : ls[k] = x at *
              refine Run ?_ trivial trivial trivial trivial trivial trivial trivial trivial trivial trivial trivial trivial
              refine ALoopQ_normal ⟨k + 1, [_, _, _, _, _, _, _, _, _, _, _, _, _, _, _, _]⟩ rfl rfl ?hi1 ?hm1
              case hi1 => simp only; omega
              case hm1 => simp only; omega
            · obtain rfl : k = ls.length := by simp only at hi; omega
              have hw : ∀ k : Nat, k < 6 → ([AV.bool false, .bool false, .bool false, .bool false, .bool false, .bool false] : List AV)[k]? = some (.bool (decide (FrOk ⟨(k : Int), coll, idx, ls, sum⟩))) := by
                intro k hk
                rw [decide_eq_false (hno _)]
                rcases (show k = 0 ∨ k = 1 ∨ k = 2 ∨ k = 3 ∨ k = 4 ∨ k = 5 by omega) with rfl | rfl | rfl | rfl | rfl | rfl <;> rfl
              refine Run ?_ trivial trivial trivial trivial trivial trivial trivial trivial trivial trivial trivial trivial
              refine AWP_loopS [8, 14, 106, 107, 108, 109, 110, 111, 112, 113, 114, 115, 116, 117] (N := Nat × Int × List AV) (fun ⟨k, kk, js⟩ => [js.getD 0 .und, js.getD 1 .und, .int .i64 (k : Int), js.getD 2 .und, js.getD 3 .und, js.getD 4 .und, js.getD 5 .und, js.getD 6 .und, js.getD 7 .und, js.getD 8 .und, js.getD 9 .und, js.getD 10 .und, js.getD 11 .und, js.getD 12 .und]) (fun ⟨k, kk, js⟩ => ⟨[(1, [AV.bool false, .bool false, .bool false, .bool false, .bool false, .bool false]), (0, [.int .i64 kk, .int .i64 coll, .int .i64 idx, lkA ls, bsA sum])], [], 2⟩) (fun ⟨k, kk, js⟩ => k ≤ 6) (fun ⟨k, kk, js⟩ => 6 - k) ⟨0, 0, [_, _, _, _, _, _, _, _, _, _, _, _, _]⟩ rfl rfl ?hi0 ?_
              rotate_left
              rintro ⟨k, kk, js⟩ sl_ hs hi
              simp only [setsF, setF, Option.some.injEq] at hs
              subst hs
              case hi0 => simp only; omega
              by_cases hlt : k < 6
              · have hRk := hR (k : Int)
                have hWk := hw k hlt
                generalize decide (FrOk ⟨(k : Int), coll, idx, ls, sum⟩) = bk at hRk hWk
                have hWk' : ([AV.bool false, .bool false, .bool false, .bool false, .bool false, .bool false] : List AV)[0 + (k : Int).toNat * 1]? = some (.bool bk) := by rw [Int.toNat_natCast, Nat.zero_add, Nat.mul_one]; exact hWk
                have hbb : (bk != bk) = false := by cases bk <;> rfl
                refine Run ?_ trivial trivial trivial trivial trivial trivial trivial trivial trivial trivial trivial trivial
                all_goals exact ALoopQ_normal ⟨k + 1, _, [_, _, _, _, _, _, _, _, _, _, _, _, _]⟩ rfl rfl (by simp only; omega) (by simp only; omega)
              · obtain rfl : k = 6 := by simp only at hi; omega
                refine Run ?_ trivial trivial trivial trivial trivial trivial trivial trivial trivial trivial trivial trivial
                rfl
        · refine Run ?_ trivial trivial @anchor17_val trivial trivial trivial trivial trivial trivial trivial trivial trivial
          refine AWP_loopS [10, 12, 44, 45, 46, 47, 48, 49, 50, 51, 52, 53, 54, 55, 56, 57, 58, 59, 60, 61] (N := Nat × List AV) (fun ⟨k, js⟩ => [.bool false, js.getD 0 .und, lkA ls, .int .i64 (ls.length : Int), .int .i64 (k : Int), js.getD 1 .und, js.getD 2 .und, js.getD 3 .und, js.getD 4 .und, js.getD 5 .und, js.getD 6 .und, js.getD 7 .und, js.getD 8 .und, js.getD 9 .und, js.getD 10 .und, js.getD 11 .und, js.getD 12 .und, js.getD 13 .und, js.getD 14 .und, js.getD 15 .und]) (fun ⟨k, js⟩ => ⟨[(0, [.int .i64 0, .int .i64 coll, .int .i64 idx, lkA ls, bsA sum])], [], 1⟩) (fun ⟨k, js⟩ => k ≤ ls.length) (fun ⟨k, js⟩ => ls.length - k) ⟨0, [_, _, _, _, _, _, _, _, _, _, _, _, _, _, _, _]⟩ rfl rfl ?hi0 ?_
          rotate_left
          rintro ⟨k, js⟩ sl_ hs hi
          simp only [setsF, setF, Option.some.injEq] at hs
          subst hs
          case hi0 => exact Nat.zero_le _
          by_cases hlt : k < ls.length
          · have hel : ls[k]? = some ls[k] := List.getElem?_eq_getElem hlt
            have hcl : (ls.map bsA)[k]? = some (bsA ls[k]) := by rw [List.getElem?_map, hel]; rfl
            generalize hx : ls[k] = x at *
            refine Run ?_ trivial trivial trivial trivial trivial trivial trivial trivial trivial trivial trivial trivial
            refine ALoopQ_normal ⟨k + 1, [_, _, _, _, _, _, _, _, _, _, _, _, _, _, _, _]⟩ rfl rfl ?hi1 ?hm1
            case hi1 => simp only; omega
            case hm1 => simp only; omega
          · obtain rfl : k = ls.length := by simp only at hi; omega
            have hw : ∀ k : Nat, k < 6 → ([AV.bool false, .bool false, .bool false, .bool false, .bool false, .bool false] : List AV)[k]? = some (.bool (decide (FrOk ⟨(k : Int), coll, idx, ls, sum⟩))) := by
              intro k hk
              rw [decide_eq_false (hno _)]
              rcases (show k = 0 ∨ k = 1 ∨ k = 2 ∨ k = 3 ∨ k = 4 ∨ k = 5 by omega) with rfl | rfl | rfl | rfl | rfl | rfl <;> rfl
            refine Run ?_ trivial trivial trivial trivial trivial trivial trivial trivial trivial trivial trivial trivial
            refine AWP_loopS [8, 14, 106, 107, 108, 109, 110, 111, 112, 113, 114, 115, 116, 117] (N := Nat × Int × List AV) (fun ⟨k, kk, js⟩ => [js.getD 0 .und, js.getD 1 .und, .int .i64 (k : Int), js.getD 2 .und, js.getD 3 .und, js.getD 4 .und, js.getD 5 .und, js.getD 6 .und, js.getD 7 .und, js.getD 8 .und, js.getD 9 .und, js.getD 10 .und, js.getD 11 .und, js.getD 12 .und]) (fun ⟨k, kk, js⟩ => ⟨[(1, [AV.bool false, .bool false, .bool false, .bool false, .bool false, .bool false]), (0, [.int .i64 kk, .int .i64 coll, .int .i64 idx, lkA ls, bsA sum])], [], 2⟩) (fun ⟨k, kk, js⟩ => k ≤ 6) (fun ⟨k, kk, js⟩ => 6 - k) ⟨0, 0, [_, _, _, _, _, _, _, _, _, _, _, _, _]⟩ rfl rfl ?hi0 ?_
            rotate_left
            rintro ⟨k, kk, js⟩ sl_ hs hi
            simp only [setsF, setF, Option.some.injEq] at hs
            subst hs
            case hi0 => simp only; omega
            by_cases hlt : k < 6
            · have hRk := hR (k : Int)
              have hWk := hw k hlt
              generalize decide (FrOk ⟨(k : Int), coll, idx, ls, sum⟩) = bk at hRk hWk
              have hWk' : ([AV.bool false, .bool false, .bool false, .bool false, .bool false, .bool false] : List AV)[0 + (k : Int).toNat * 1]? = some (.bool bk) := by rw [Int.toNat_natCast, Nat.zero_add, Nat.mul_one]; exact hWk
              have hbb : (bk != bk) = false := by cases bk <;> rfl
              refine Run ?_ trivial trivial trivial trivial trivial trivial trivial trivial trivial trivial trivial trivial
              all_goals exact ALoopQ_normal ⟨k + 1, _, [_, _, _, _, _, _, _, _, _, _, _, _, _]⟩ rfl rfl (by simp only; omega) (by simp only; omega)
            · obtain rfl : k = 6 := by simp only at hi; omega
              refine Run ?_ trivial trivial trivial trivial trivial trivial trivial trivial trivial trivial trivial trivial
              rfl
      · refine Run ?_ trivial trivial @anchor17_val trivial trivial trivial trivial trivial trivial trivial trivial trivial
        refine AWP_loopS [10, 12, 44, 45, 46, 47, 48, 49, 50, 51, 52, 53, 54, 55, 56, 57, 58, 59, 60, 61] (N := Nat × List AV) (fun ⟨k, js⟩ => [.bool false, js.getD 0 .und, lkA ls, .int .i64 (ls.length : Int), .int .i64 (k : Int), js.getD 1 .und, js.getD 2 .und, js.getD 3 .und, js.getD 4 .und, js.getD 5 .und, js.getD 6 .und, js.getD 7 .und, js.getD 8 .und, js.getD 9 .und, js.getD 10 .und, js.getD 11 .und, js.getD 12 .und, js.getD 13 .und, js.getD 14 .und, js.getD 15 .und]) (fun ⟨k, js⟩ => ⟨[(0, [.int .i64 0, .int .i64 coll, .int .i64 idx, lkA ls, bsA sum])], [], 1⟩) (fun ⟨k, js⟩ => k ≤ ls.length) (fun ⟨k, js⟩ => ls.length - k) ⟨0, [_, _, _, _, _, _, _, _, _, _, _, _, _, _, _, _]⟩ rfl rfl ?hi0 ?_
        rotate_left
        rintro ⟨k, js⟩ sl_ hs hi
        simp only [setsF, setF, Option.some.injEq] at hs
        subst hs
        case hi0 => exact Nat.zero_le _
        by_cases hlt : k < ls.length
        · have hel : ls[k]? = some ls[k] := List.getElem?_eq_getElem hlt
          have hcl : (ls.map bsA)[k]? = some (bsA ls[k]) := by rw [List.getElem?_map, hel]; rfl
          generalize hx : ls[k] = x at *
          refine Run ?_ trivial trivial trivial trivial trivial trivial trivial trivial trivial trivial trivial trivial
          refine ALoopQ_normal ⟨k + 1, [_, _, _, _, _, _, _, _, _, _, _, _, _, _, _, _]⟩ rfl rfl ?hi1 ?hm1
          case hi1 => simp only; omega
          case hm1 => simp only; omega
        · obtain rfl : k = ls.length := by simp only at hi; omega
          have hw : ∀ k : Nat, k < 6 → ([AV.bool false, .bool false, .bool false, .bool false, .bool false, .bool false] : List AV)[k]? = some (.bool (decide (FrOk ⟨(k : Int), coll, idx, ls, sum⟩))) := by
            intro k hk
            rw [decide_eq_false (hno _)]
            rcases (show k = 0 ∨ k = 1 ∨ k = 2 ∨ k = 3 ∨ k = 4 ∨ k = 5 by omega) with rfl | rfl | rfl | rfl | rfl | rfl <;> rfl
          refine Run ?_ trivial trivial trivial trivial trivial trivial trivial trivial trivial trivial trivial trivial
          refine AWP_loopS [8, 14, 106, 107, 108, 109, 110, 111, 112, 113, 114, 115, 116, 117] (N := Nat × Int × List AV) (fun ⟨k, kk, js⟩ => [js.getD 0 .und, js.getD 1 .und, .int .i64 (k : Int), js.getD 2 .und, js.getD 3 .und, js.getD 4 .und, js.getD 5 .und, js.getD 6 .und, js.getD 7 .und, js.getD 8 .und, js.getD 9 .und, js.getD 10 .und, js.getD 11 .und, js.getD 12 .und]) (fun ⟨k, kk, js⟩ => ⟨[(1, [AV.bool false, .bool false, .bool false, .bool false, .bool false, .bool false]), (0, [.int .i64 kk, .int .i64 coll, .int .i64 idx, lkA ls, bsA sum])], [], 2⟩) (fun ⟨k, kk, js⟩ => k ≤ 6) (fun ⟨k, kk, js⟩ => 6 - k) ⟨0, 0, [_, _, _, _, _, _, _, _, _, _, _, _, _]⟩ rfl rfl ?hi0 ?_
          rotate_left
          rintro ⟨k, kk, js⟩ sl_ hs hi
          simp only [setsF, setF, Option.some.injEq] at hs
          subst hs
          case hi0 => simp only; omega
          by_cases hlt : k < 6
          · have hRk := hR (k : Int)
            have hWk := hw k hlt
            generalize decide (FrOk ⟨(k : Int), coll, idx, ls, sum⟩) = bk at hRk hWk
            have hWk' : ([AV.bool false, .bool false, .bool false, .bool false, .bool false, .bool false] : List AV)[0 + (k : Int).toNat * 1]? = some (.bool bk) := by rw [Int.toNat_natCast, Nat.zero_add, Nat.mul_one]; exact hWk
            have hbb : (bk != bk) = false := by cases bk <;> rfl
            refine Run ?_ trivial trivial trivial trivial trivial trivial trivial trivial trivial trivial trivial trivial
            all_goals exact ALoopQ_normal ⟨k + 1, _, [_, _, _, _, _, _, _, _, _, _, _, _, _]⟩ rfl rfl (by simp only; omega) (by simp only; omega)
          · obtain rfl : k = 6 := by simp only at hi; omega
            refine Run ?_ trivial trivial trivial trivial trivial trivial trivial trivial trivial trivial trivial trivial
            rfl
    · refine Run ?_ trivial trivial @anchor17_val trivial trivial trivial trivial trivial trivial trivial trivial trivial
      refine AWP_loopS [10, 12, 44, 45, 46, 47, 48, 49, 50, 51, 52, 53, 54, 55, 56, 57, 58, 59, 60, 61] (N := Nat × List AV) (fun ⟨k, js⟩ => [.bool false, js.getD 0 .und, lkA ls, .int .i64 (ls.length : Int), .int .i64 (k : Int), js.getD 1 .und, js.getD 2 .und, js.getD 3 .und, js.getD 4 .und, js.getD 5 .und, js.getD 6 .und, js.getD 7 .und, js.getD 8 .und, js.getD 9 .und, js.getD 10 .und, js.getD 11 .und, js.getD 12 .und, js.getD 13 .und, js.getD 14 .und, js.getD 15 .und]) (fun ⟨k, js⟩ => ⟨[(0, [.int .i64 0, .int .i64 coll, .int .i64 idx, lkA ls, bsA sum])], [], 1⟩) (fun ⟨k, js⟩ => k ≤ ls.length) (fun ⟨k, js⟩ => ls.length - k) ⟨0, [_, _, _, _, _, _, _, _, _, _, _, _, _, _, _, _]⟩ rfl rfl ?hi0 ?_
      rotate_left
      rintro ⟨k, js⟩ sl_ hs hi
      simp only [setsF, setF, Option.some.injEq] at hs
      subst hs
      case hi0 => exact Nat.zero_le _
      by_cases hlt : k < ls.length
      · have hel : ls[k]? = some ls[k] := List.getElem?_eq_getElem hlt
        have hcl : (ls.map bsA)[k]? = some (bsA ls[k]) := by rw [List.getElem?_map, hel]; rfl
        generalize hx : ls[k] = x at *
        refine Run ?_ trivial trivial trivial trivial trivial trivial trivial trivial trivial trivial trivial trivial
        refine ALoopQ_normal ⟨k + 1, [_, _, _, _, _, _, _, _, _, _, _, _, _, _, _, _]⟩ rfl rfl ?hi1 ?hm1
        case hi1 => simp only; omega
        case hm1 => simp only; omega
      · obtain rfl : k = ls.length := by simp only at hi; omega
        have hw : ∀ k : Nat, k < 6 → ([AV.bool false, .bool false, .bool false, .bool false, .bool false, .bool false] : List AV)[k]? = some (.bool (decide (FrOk ⟨(k : Int), coll, idx, ls, sum⟩))) := by
          intro k hk
          rw [decide_eq_false (hno _)]
          rcases (show k = 0 ∨ k = 1 ∨ k = 2 ∨ k = 3 ∨ k = 4 ∨ k = 5 by omega) with rfl | rfl | rfl | rfl | rfl | rfl <;> rfl
        refine Run ?_ trivial trivial trivial trivial trivial trivial trivial trivial trivial trivial trivial trivial
        refine AWP_loopS [8, 14, 106, 107, 108, 109, 110, 111, 112, 113, 114, 115, 116, 117] (N := Nat × Int × List AV) (fun ⟨k, kk, js⟩ => [js.getD 0 .und, js.getD 1 .und, .int .i64 (k : Int), js.getD 2 .und, js.getD 3 .und, js.getD 4 .und, js.getD 5 .und, js.getD 6 .und, js.getD 7 .und, js.getD 8 .und, js.getD 9 .und, js.getD 10 .und, js.getD 11 .und, js.getD 12 .und]) (fun ⟨k, kk, js⟩ => ⟨[(1, [AV.bool false, .bool false, .bool false, .bool false, .bool false, .bool false]), (0, [.int .i64 kk, .int .i64 coll, .int .i64 idx, lkA ls, bsA sum])], [], 2⟩) (fun ⟨k, kk, js⟩ => k ≤ 6) (fun ⟨k, kk, js⟩ => 6 - k) ⟨0, 0, [_, _, _, _, _, _, _, _, _, _, _, _, _]⟩ rfl rfl ?hi0 ?_
        rotate_left
        rintro ⟨k, kk, js⟩ sl_ hs hi
        simp only [setsF, setF, Option.some.injEq] at hs
        subst hs
        case hi0 => simp only; omega
        by_cases hlt : k < 6
        · have hRk := hR (k : Int)
          have hWk := hw k hlt
          generalize decide (FrOk ⟨(k : Int), coll, idx, ls, sum⟩) = bk at hRk hWk
          have hWk' : ([AV.bool false, .bool false, .bool false, .bool false, .bool false, .bool false] : List AV)[0 + (k : Int).toNat * 1]? = some (.bool bk) := by rw [Int.toNat_natCast, Nat.zero_add, Nat.mul_one]; exact hWk
          have hbb : (bk != bk) = false := by cases bk <;> rfl
          refine Run ?_ trivial trivial trivial trivial trivial trivial trivial trivial trivial trivial trivial trivial
          all_goals exact ALoopQ_normal ⟨k + 1, _, [_, _, _, _, _, _, _, _, _, _, _, _, _]⟩ rfl rfl (by simp only; omega) (by simp only; omega)
        · obtain rfl : k = 6 := by simp only at hi; omega
          refine Run ?_ trivial trivial trivial trivial trivial trivial trivial trivial trivial trivial trivial trivial
          rfl
theorem FrameKinds_walk (w : World) (coll : Int) (hc : (Lit.int .i64 coll).wf = true) (idx : Int) (hi : (Lit.int .i64 idx).wf = true) (A : Option Addr) (n c : Nat) (ls : List (List UInt8)) (hl : RSlice 1 RBytes w [.slice A n c] ls) (A2 : Option Addr) (n2 c2 : Nat) (s : List UInt8) (hs : RBytes w [.slice A2 n2 c2] s) : Calls Try.prog 13 #[.int .i64 coll, .int .i64 idx, .slice A n c, .slice A2 n2 c2] w (Tells w true) := (FrameKinds_law coll idx ls s (RLinks.repsA hl).2).tells (.cons Reps_int (.cons Reps_int (.cons (RLinks.repsA hl).1 (.one hs.repsA))))
end Go.Proofs.Ytnjkklkjlloedaa
