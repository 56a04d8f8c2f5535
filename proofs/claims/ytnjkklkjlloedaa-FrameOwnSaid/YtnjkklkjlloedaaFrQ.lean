/- frame: Encode makes a buffer that may be written; Decode keeps nothing of what it reads. -/
import Derived.Test.YtnjkklkjlloedaaPutB
import Derived.Test.YtnjkklkjlloedaaFrD
import Derived.Test.YtnjkklkjlloedaaFrP
namespace Go.Proofs.Ytnjkklkjlloedaa
open Go.RowKit
set_option linter.unusedVariables false
set_option linter.unusedSimpArgs false
set_option maxRecDepth 10000
theorem encode_buf (f : Fr) (hok : FrOk f) (hsz : (frB f).length ≤ 32768) : ABuf Try.prog 47 [frA f] bufT ((frB f).map bvA) (frB f).length 1 := by
  refine ABuf.mk (by simp only [AV.shutL, frA_shut, Bool.and_self]) (shutL_bvA _) bufT_R ?_
  refine ACalls_body Try.func47 rfl rfl ?_
  simp only [Try.ntmps47, List.length_cons, List.length_nil, Nat.reduceAdd, Nat.reduceSub, List.replicate_succ, List.replicate_zero, List.cons_append, List.nil_append]
  have hR := right_val f (by have := hok.links.1; omega)
  rw [decide_eq_true hok] at hR
  have hl := hok.links
  refine Run ?_ trivial trivial trivial trivial trivial trivial trivial trivial trivial trivial trivial trivial
  refine AWP_adoptF 4 1 rfl rfl (by simp only [setF]; rfl) ?_
  refine AWP_loopS [4, 6, 27, 28, 29, 30, 31, 32, 33, 34, 35, 36, 37, 38] (N := Nat × Nat × List AV × List AV) (fun ⟨k, n, cs, js⟩ => [.sl (.tok 1 n 1) cs n, js.getD 0 .und, lkA f.links, .int .i64 (f.links.length : Int), .int .i64 (k : Int), js.getD 1 .und, js.getD 2 .und, js.getD 3 .und, js.getD 4 .und, js.getD 5 .und, js.getD 6 .und, js.getD 7 .und, js.getD 8 .und, js.getD 9 .und]) (fun ⟨k, n, cs, js⟩ => ⟨[(0, [.int .i64 f.kind, .int .i64 f.coll, .int .i64 f.idx, lkA f.links, bsA f.sum])], [(1, n)], 2⟩) (fun ⟨k, n, cs, js⟩ => k ≤ f.links.length ∧ n = 4 + k ∧ cs = (frP0 f (f.links.take k)).map ptA) (fun ⟨k, n, cs, js⟩ => f.links.length - k) ⟨0, 4, _, [_, _, _, _, _, _, _, _, _, _]⟩ rfl rfl ?hi0 ?_
  rotate_left
  rintro ⟨k, n, cs, js⟩ sl_ hs hi
  simp only [setsF, setF, Option.some.injEq] at hs
  subst hs
  case hi0 => exact ⟨by omega, rfl, rfl⟩
  obtain ⟨hk, hn, hcs⟩ := hi
  by_cases hlt : k < f.links.length
  · have hel : f.links[k]? = some f.links[k] := List.getElem?_eq_getElem hlt
    have hcl : (f.links.map bsA)[k]? = some (bsA f.links[k]) := by rw [List.getElem?_map, hel]; rfl
    refine Run ?_ trivial trivial trivial trivial trivial trivial trivial trivial trivial trivial trivial trivial
    refine ALoopQ_normal ⟨k + 1, _, _, [_, _, _, _, _, _, _, _, _, _]⟩ rfl rfl ?hi1 ?hm1
    case hi1 =>
      refine ⟨by omega, by omega, ?_⟩
      rw [List.take_add_one, hel, hcs]
      simp only [frP0, Option.toList_some, List.map_append, List.map_cons, List.map_nil, ptA, List.append_assoc]
    case hm1 => simp only; omega
  · obtain rfl : k = f.links.length := by omega
    rw [List.take_length] at hcs
    have hP : ABuf Try.prog 72 [.sl (.tok 1 (n + 1) 1) (cs ++ [.iface 27 (bsA f.sum)]) (n + 1)] bufT ((frB f).map bvA) (frB f).length 1 := by
      have := put_buf (frP f) (.tok 1 (n + 1) 1) (n + 1) (by simp [frP]; omega) (by omega) (by omega) (fun l hl' => by
        simp only [frP, List.mem_append, List.mem_cons, List.mem_map, List.not_mem_nil, or_false] at hl'
        rcases hl' with ((h | h | h | h) | ⟨b, hb, h⟩) | h
        all_goals first | (cases h; done) | (cases h; have := (hl.2 l hb).2; omega) | (cases h; have := hok.sum; omega)) ((putErr_ok _).1 hok.put)
      rw [hcs]
      simpa [frP, frP0, ptA, frB] using this
    refine Run ?_ trivial trivial trivial trivial trivial trivial trivial trivial trivial trivial trivial trivial
    with_reducible apply R_call_k
    case hf => rfl
    case ha => rfl
    case hc => exact (fun vs w => by kernel_rfl)
    case h => exact hP _
    rintro _ _ ⟨j, rfl, rfl⟩
    refine Run ?_ trivial trivial trivial trivial trivial trivial trivial trivial trivial trivial trivial trivial
    exact ⟨2, j, by omega, rfl, rfl⟩
set_option maxHeartbeats 4000000 in
theorem decode_buf (b : List UInt8) (j : Nat) (hm : b.length ≤ 32768) : AVw Try.prog 23 (b.map bvA ++ anys j) b.length (b.length + j) [] (decR b) := by
  refine AVw.mk rfl (shutL_append _ _ (shutL_bvA _) (anys_shut _)) (decR_shut _) ?_
  refine ACalls_body Try.func23 rfl rfl ?_
  simp only [Try.ntmps23, List.length_cons, List.length_nil, Nat.reduceAdd, Nat.reduceSub, List.replicate_succ, List.replicate_zero, List.cons_append, List.nil_append]
  unfold decR
  rw [if_neg (by omega)]
  refine Run ?_ trivial trivial (⟨Try.func55, rfl, rfl⟩ : Inl Try.prog 55 _ _ _) trivial trivial trivial trivial trivial trivial trivial trivial trivial
  with_reducible apply T_append_nilsS
  case hx => rfl
  case hy => rfl
  case hS => exact SrcS_buf (cells := b.map bvA) inferInstance rfl (by rw [List.drop_zero, Nat.mul_one]; exact List.take_left' (by simp)) (by simp) (bvA_ones _)
  case hb => constructor <;> omega
  case hs => exact aput_ok rfl
  refine Run ?_ trivial trivial trivial trivial trivial trivial trivial trivial trivial trivial trivial trivial
  refine AOPS_weakS (σ1 := ⟨[(4, [.int .i64 0, .int .i64 0, .int .i64 0, .nils, .nils]), (3, rdC b false), (1, [.int .i64 0, .int .i64 0, .int .i64 0, .nils, .nils]), (0, b.map bvA ++ anys j)], [], 5⟩) (.cons (.cons (.cons (.cons (.nil (by decide)) (.inl rfl)) (.inl rfl)) (.inr (by simp [rdC, AV.wkL, AV.wk, AV.wkL_bvA]))) (.inl rfl)) ?_
  have h1 := num_mth b false 1 4
  have h2 := num_mth (decS1 b).2.1 (decS1 b).2.2 1 1099511627776
  have h3 := num_mth (decS2 b).2.1 (decS2 b).2.2 0 64
  have h4 := num_mth (decS3 b).2.1 (decS3 b).2.2 0 8
  change AMth Try.prog _ _ _ (.int .i64 (decS1 b).1) (rdC (decS1 b).2.1 (decS1 b).2.2) at h1
  change AMth Try.prog _ _ _ (.int .i64 (decS2 b).1) (rdC (decS2 b).2.1 (decS2 b).2.2) at h2
  change AMth Try.prog _ _ _ (.int .i64 (decS3 b).1) (rdC (decS3 b).2.1 (decS3 b).2.2) at h3
  change AMth Try.prog _ _ _ (.int .i64 (decS4 b).1) (rdC (decS4 b).2.1 (decS4 b).2.2) at h4
  refine Run ?_ trivial trivial trivial trivial trivial trivial trivial trivial trivial trivial trivial trivial
  have hN := rnum_range (least := 0) (most := 8) (decS3 b).2 (by omega) (by omega)
  obtain ⟨n0, hn0⟩ := Int.eq_ofNat_of_zero_le hN.1
  change (decS4 b).1 = (n0 : Int) at hn0
  have hn8 : n0 ≤ 8 := by have := hN.2; change (decS4 b).1 ≤ 8 at this; omega
  have hL : decL b = rlinks n0 (decS4 b).2 := by unfold decL; rw [hn0]; rfl
  rw [hn0]
  clear h1 h2 h3 h4 hN
  refine AWP_adoptO 4 3 1 rfl rfl rfl rfl ?_
  refine AWP_loopS [7, 27, 28, 29, 30, 31, 32, 33, 34, 35, 36, 37, 38, 39, 40, 41, 42] (N := Nat × Int × List UInt8 × Bool × List (List UInt8) × Nat × List AV × List AV) (fun ⟨m, mi, l, bad, ls, n, cs, js⟩ => [.int .i64 mi, js.getD 0 .und, js.getD 1 .und, js.getD 2 .und, js.getD 3 .und, js.getD 4 .und, js.getD 5 .und, js.getD 6 .und, js.getD 7 .und, js.getD 8 .und, js.getD 9 .und, js.getD 10 .und, js.getD 11 .und, js.getD 12 .und, js.getD 13 .und, js.getD 14 .und, js.getD 15 .und]) (fun ⟨m, mi, l, bad, ls, n, cs, js⟩ => ⟨[(4, [.int .i64 (decS1 b).1, .int .i64 (decS2 b).1, .int .i64 (decS3 b).1, .sl (.tok 5 n 1) cs n, .nils]), (3, rdC l bad), (1, [.int .i64 0, .int .i64 0, .int .i64 0, .nils, .nils]), (0, b.map bvA ++ anys j)], [(5, n)], 6⟩) (fun ⟨m, mi, l, bad, ls, n, cs, js⟩ => decL b = (ls ++ (rlinks m (l, bad)).1, (rlinks m (l, bad)).2) ∧ cs = ls.map bsA ∧ n = ls.length ∧ n + m ≤ 8 ∧ mi = (m : Int)) (fun ⟨m, mi, l, bad, ls, n, cs, js⟩ => m) ⟨n0, n0, (decS4 b).2.1, (decS4 b).2.2, [], 0, [], [_, _, _, _, _, _, _, _, _, _, _, _, _, _, _, _]⟩ rfl rfl ?hi0 ?_
  rotate_left
  rintro ⟨m, mi, l, bad, ls, n, cs, js⟩ sl_ hs hi
  simp only [setsF, setF, Option.some.injEq] at hs
  subst hs
  case hi0 => exact ⟨hL, rfl, rfl, by omega, rfl⟩
  obtain ⟨hl, hcs, hn, hle, hmi⟩ := hi
  have hBad := bad_mth l bad
  by_cases hgo : bad = false ∧ 0 < m
  · obtain ⟨rfl, hm0⟩ := hgo
    obtain ⟨m, rfl⟩ : ∃ j, m = j + 1 := ⟨m - 1, by omega⟩
    have hT := text_mth l false 1 4096
    generalize ht : rtext 1 4096 (l, false) = q at hT
    obtain ⟨t, l', bad'⟩ := q
    dsimp only at hT
    have hl2 : decL b = ((ls ++ [t]) ++ (rlinks m (l', bad')).1, (rlinks m (l', bad')).2) := by
      rw [hl]
      conv => lhs; unfold rlinks
      rw [if_neg (by simp), ht]
      simp
    refine Run ?_ trivial trivial trivial trivial trivial trivial trivial trivial trivial trivial trivial trivial
    refine ALoopQ_normal ⟨m, _, l', bad', ls ++ [t], _, _, [_, _, _, _, _, _, _, _, _, _, _, _, _, _, _, _]⟩ rfl rfl ?hi1 ?hm1
    case hi1 => exact ⟨hl2, by rw [hcs]; simp, by rw [List.length_append, hn]; rfl, by omega, by omega⟩
    case hm1 => simp only; omega
  · have hz : rlinks m (l, bad) = ([], (l, bad)) := by
      cases m with
      | zero => rfl
      | succ m => cases bad with
        | true => unfold rlinks; rw [if_pos rfl]
        | false => exact absurd ⟨rfl, by omega⟩ hgo
    rw [hz, List.append_nil] at hl
    dsimp only at hl
    have hT := text_mth l bad 0 32
    have h5 : decS5 b = rtext 0 32 (l, bad) := by unfold decS5; rw [hl]
    rw [← h5] at hT
    have hE := end_mth (decS5 b).2.1 (decS5 b).2.2
    have hFl : (decF b).links = ls := by unfold decF; rw [hl]
    have hR := right_val (decF b) (by rw [hFl]; omega)
    have hd : decF b = ⟨(decS1 b).1, (decS2 b).1, (decS3 b).1, ls, (decS5 b).1⟩ := by rw [← hFl]; rfl
    rw [hd] at hR
    subst hcs hn
    have hz' : m = 0 ∨ bad = true := by
      cases bad with
      | true => exact .inr rfl
      | false => exact .inl (Nat.eq_zero_of_not_pos fun h => hgo ⟨rfl, h⟩)
    have hall : (!(decS5 b).2.2 && (decS5 b).2.1.isEmpty) = decide ((decS5 b).2.2 = false ∧ (decS5 b).2.1 = []) := by
      rw [Bool.eq_iff_iff]; cases (decS5 b).2.2 <;> simp
    rw [hall] at hE
    by_cases hend : (decS5 b).2.2 = false ∧ (decS5 b).2.1 = []
    · rw [decide_eq_true hend] at hE
      by_cases hok : FrOk ⟨(decS1 b).1, (decS2 b).1, (decS3 b).1, ls, (decS5 b).1⟩
      · rw [decide_eq_true hok] at hR
        rw [if_pos ⟨hend.1, hend.2, by rw [hd]; exact hok⟩, hd]
        rcases hz' with rfl | rfl
        · refine Run ?_ trivial trivial trivial trivial trivial trivial trivial trivial trivial trivial trivial trivial
          exact ⟨by simp [aone, AV.wk, AV.wkL, AV.wkL_bvA, bsAs_wk], (show (1 : Int) ≤ 6 by omega), rfl⟩
        · by_cases hm0 : mi > 0
          · refine Run ?_ trivial trivial trivial trivial trivial trivial trivial trivial trivial trivial trivial trivial
            exact ⟨by simp [aone, AV.wk, AV.wkL, AV.wkL_bvA, bsAs_wk], (show (1 : Int) ≤ 6 by omega), rfl⟩
          · refine Run ?_ trivial trivial trivial trivial trivial trivial trivial trivial trivial trivial trivial trivial
            exact ⟨by simp [aone, AV.wk, AV.wkL, AV.wkL_bvA, bsAs_wk], (show (1 : Int) ≤ 6 by omega), rfl⟩
      · rw [decide_eq_false hok] at hR
        rw [if_neg (fun h => hok (by rw [← hd]; exact h.2.2))]
        rcases hz' with rfl | rfl
        · refine Run ?_ trivial trivial trivial trivial trivial trivial trivial trivial trivial trivial trivial trivial
          exact ⟨by simp [aone, AV.wk, AV.wkL, zeroF], (show (1 : Int) ≤ 6 by omega), rfl⟩
        · by_cases hm0 : mi > 0
          · refine Run ?_ trivial trivial trivial trivial trivial trivial trivial trivial trivial trivial trivial trivial
            exact ⟨by simp [aone, AV.wk, AV.wkL, zeroF], (show (1 : Int) ≤ 6 by omega), rfl⟩
          · refine Run ?_ trivial trivial trivial trivial trivial trivial trivial trivial trivial trivial trivial trivial
            exact ⟨by simp [aone, AV.wk, AV.wkL, zeroF], (show (1 : Int) ≤ 6 by omega), rfl⟩
    · rw [decide_eq_false hend] at hE
      rw [if_neg (fun h => hend ⟨h.1, h.2.1⟩)]
      rcases hz' with rfl | rfl
      · refine Run ?_ trivial trivial trivial trivial trivial trivial trivial trivial trivial trivial trivial trivial
        exact ⟨by simp [aone, AV.wk, AV.wkL, zeroF], (show (1 : Int) ≤ 6 by omega), rfl⟩
      · by_cases hm0 : mi > 0
        · refine Run ?_ trivial trivial trivial trivial trivial trivial trivial trivial trivial trivial trivial trivial
          exact ⟨by simp [aone, AV.wk, AV.wkL, zeroF], (show (1 : Int) ≤ 6 by omega), rfl⟩
        · refine Run ?_ trivial trivial trivial trivial trivial trivial trivial trivial trivial trivial trivial trivial
          exact ⟨by simp [aone, AV.wk, AV.wkL, zeroF], (show (1 : Int) ≤ 6 by omega), rfl⟩
end Go.Proofs.Ytnjkklkjlloedaa
