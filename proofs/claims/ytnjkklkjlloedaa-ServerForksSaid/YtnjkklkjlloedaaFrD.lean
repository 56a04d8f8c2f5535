/- frame: Decode, by the abstract machine. -/
import Derived.Test.YtnjkklkjlloedaaFrC
namespace Go.Proofs.Ytnjkklkjlloedaa
open Go.RowKit
set_option linter.unusedVariables false
set_option linter.unusedSimpArgs false
set_option maxRecDepth 10000
/-- So many links, read. -/
def rlinks : Nat → RS → List (List UInt8) × RS
  | 0, s => ([], s)
  | n + 1, s => if s.2 = true then ([], s) else ((rtext 1 4096 s).1 :: (rlinks n (rtext 1 4096 s).2).1, (rlinks n (rtext 1 4096 s).2).2)
def decS1 (b : List UInt8) : Int × RS := rnum 1 4 (b, false)
def decS2 (b : List UInt8) : Int × RS := rnum 1 1099511627776 (decS1 b).2
def decS3 (b : List UInt8) : Int × RS := rnum 0 64 (decS2 b).2
def decS4 (b : List UInt8) : Int × RS := rnum 0 8 (decS3 b).2
def decL (b : List UInt8) : List (List UInt8) × RS := rlinks (decS4 b).1.toNat (decS4 b).2
def decS5 (b : List UInt8) : List UInt8 × RS := rtext 0 32 (decL b).2
def decF (b : List UInt8) : Fr := ⟨(decS1 b).1, (decS2 b).1, (decS3 b).1, (decL b).1, (decS5 b).1⟩
def decOk (b : List UInt8) : Prop := (decS5 b).2.2 = false ∧ (decS5 b).2.1 = [] ∧ FrOk (decF b)
instance (b : List UInt8) : Decidable (decOk b) := by unfold decOk; infer_instance
def zeroF : Fr := ⟨0, 0, 0, [], []⟩
def decR (b : List UInt8) : AV := if 32768 < b.length then .tup [frA zeroF, .int .i64 11] else if decOk b then .tup [frA (decF b), .int .i64 0] else .tup [frA zeroF, .int .i64 10]
theorem frE_shut (f : Fr) (e : Int) : (AV.tup [frA f, .int .i64 e]).shut = true := by
  have := frA_shut f
  unfold AV.shut AV.shutL AV.shutL AV.shutL
  rw [this]
  simp [AV.shut]
theorem decR_shut (b : List UInt8) : (decR b).shut = true := by unfold decR; split; exact frE_shut _ _; split; exact frE_shut _ _; exact frE_shut _ _
theorem rnum_range {least most : Int} (s : RS) (h0 : least ≤ 0) (h1 : 0 ≤ most) : least ≤ (rnum least most s).1 ∧ (rnum least most s).1 ≤ most := by
  unfold rnum
  split
  · exact ⟨h0, h1⟩
  · simp; omega
theorem decode_val (b : List UInt8) (hm : b.length ≤ 1000000) : AVal Try.prog 23 [bsA b] (decR b) := by
  refine AVal.mkw (by simp [AV.shutL, bsA_shut]) (decR_shut _) ?_
  refine ACalls_body Try.func23 rfl rfl ?_
  simp only [Try.ntmps23, List.length_cons, List.length_nil, Nat.reduceAdd, Nat.reduceSub, List.replicate_succ, List.replicate_zero, List.cons_append, List.nil_append]
  have hNew := read_new b hm
  unfold decR
  by_cases hbig : 32768 < b.length
  · rw [if_pos hbig]
    refine Run ?_ trivial trivial trivial trivial trivial trivial trivial trivial trivial trivial trivial trivial
    simp [aone, AV.wk, AV.wkL, zeroF]
  · rw [if_neg hbig]
    have h1 := num_mth b false 1 4
    have h2 := num_mth (decS1 b).2.1 (decS1 b).2.2 1 1099511627776
    have h3 := num_mth (decS2 b).2.1 (decS2 b).2.2 0 64
    have h4 := num_mth (decS3 b).2.1 (decS3 b).2.2 0 8
    change AMth Try.prog _ _ _ (.int .i64 (decS1 b).1) (rdC (decS1 b).2.1 (decS1 b).2.2) at h1
    change AMth Try.prog _ _ _ (.int .i64 (decS2 b).1) (rdC (decS2 b).2.1 (decS2 b).2.2) at h2
    change AMth Try.prog _ _ _ (.int .i64 (decS3 b).1) (rdC (decS3 b).2.1 (decS3 b).2.2) at h3
    change AMth Try.prog _ _ _ (.int .i64 (decS4 b).1) (rdC (decS4 b).2.1 (decS4 b).2.2) at h4
    refine Run ?_ trivial trivial trivial trivial trivial trivial trivial trivial trivial trivial trivial trivial
    have hN := rnum_range (least := 0) (most := 8) (decS3 b).2 (by omega) (by omega)
    obtain ⟨n0, hn0⟩ := Int.eq_ofNat_of_zero_le hN.1
    change (decS4 b).1 = (n0 : Int) at hn0
    have hn8 : n0 ≤ 8 := by have := hN.2; change (decS4 b).1 ≤ 8 at this; omega
    have hL : decL b = rlinks n0 (decS4 b).2 := by unfold decL; rw [hn0]; rfl
    rw [hn0]
    clear h1 h2 h3 h4 hN
    refine AWP_adoptO 3 3 1 rfl rfl rfl rfl ?_
    refine AWP_loopS [7, 27, 28, 29, 30, 31, 32, 33, 34, 35, 36, 37, 38, 39, 40, 41, 42] (N := Nat × Int × List UInt8 × Bool × List (List UInt8) × Nat × List AV × List AV) (fun ⟨m, mi, l, bad, ls, n, cs, js⟩ => [.int .i64 mi, js.getD 0 .und, js.getD 1 .und, js.getD 2 .und, js.getD 3 .und, js.getD 4 .und, js.getD 5 .und, js.getD 6 .und, js.getD 7 .und, js.getD 8 .und, js.getD 9 .und, js.getD 10 .und, js.getD 11 .und, js.getD 12 .und, js.getD 13 .und, js.getD 14 .und, js.getD 15 .und]) (fun ⟨m, mi, l, bad, ls, n, cs, js⟩ => ⟨[(3, [.int .i64 (decS1 b).1, .int .i64 (decS2 b).1, .int .i64 (decS3 b).1, .sl (.tok 4 n 1) cs n, .nils]), (2, rdC l bad), (0, [.int .i64 0, .int .i64 0, .int .i64 0, .nils, .nils])], [(4, n)], 5⟩) (fun ⟨m, mi, l, bad, ls, n, cs, js⟩ => decL b = (ls ++ (rlinks m (l, bad)).1, (rlinks m (l, bad)).2) ∧ cs = ls.map bsA ∧ n = ls.length ∧ n + m ≤ 8 ∧ mi = (m : Int)) (fun ⟨m, mi, l, bad, ls, n, cs, js⟩ => m) ⟨n0, n0, (decS4 b).2.1, (decS4 b).2.2, [], 0, [], [_, _, _, _, _, _, _, _, _, _, _, _, _, _, _, _]⟩ rfl rfl ?hi0 ?_
    rotate_left
    rintro ⟨m, mi, l, bad, ls, n, cs, js⟩ sl_ hs hi
    simp only [setsF, setF, Option.some.injEq] at hs
    subst hs
    case hi0 => exact ⟨hL, rfl, rfl, by omega, rfl⟩
    obtain ⟨hl, hcs, hn, hle, hmi⟩ := hi
    have hBad := bad_mth l bad
    by_cases hgo : bad = false ∧ 0 < m
    · obtain ⟨rfl, hm0⟩ := hgo
      obtain ⟨m, rfl⟩ : ∃ j, m = j + 1 := ⟨m - 1, by omega⟩
      have hT := text_mth l false 1 4096
      generalize ht : rtext 1 4096 (l, false) = q at hT
      obtain ⟨t, l', bad'⟩ := q
      dsimp only at hT
      have hl2 : decL b = ((ls ++ [t]) ++ (rlinks m (l', bad')).1, (rlinks m (l', bad')).2) := by
        rw [hl]
        conv => lhs; unfold rlinks
        rw [if_neg (by simp), ht]
        simp
      refine Run ?_ trivial trivial trivial trivial trivial trivial trivial trivial trivial trivial trivial trivial
      refine ALoopQ_normal ⟨m, _, l', bad', ls ++ [t], _, _, [_, _, _, _, _, _, _, _, _, _, _, _, _, _, _, _]⟩ rfl rfl ?hi1 ?hm1
      case hi1 => exact ⟨hl2, by rw [hcs]; simp, by rw [List.length_append, hn]; rfl, by omega, by omega⟩
      case hm1 => simp only; omega
    · have hz : rlinks m (l, bad) = ([], (l, bad)) := by
        cases m with
        | zero => rfl
        | succ m => cases bad with
          | true => unfold rlinks; rw [if_pos rfl]
          | false => exact absurd ⟨rfl, by omega⟩ hgo
      rw [hz, List.append_nil] at hl
      dsimp only at hl
      have hT := text_mth l bad 0 32
      have h5 : decS5 b = rtext 0 32 (l, bad) := by unfold decS5; rw [hl]
      rw [← h5] at hT
      have hE := end_mth (decS5 b).2.1 (decS5 b).2.2
      have hFl : (decF b).links = ls := by unfold decF; rw [hl]
      have hR := right_val (decF b) (by rw [hFl]; omega)
      have hd : decF b = ⟨(decS1 b).1, (decS2 b).1, (decS3 b).1, ls, (decS5 b).1⟩ := by rw [← hFl]; rfl
      rw [hd] at hR
      subst hcs hn
      have hz' : m = 0 ∨ bad = true := by
        cases bad with
        | true => exact .inr rfl
        | false => exact .inl (Nat.eq_zero_of_not_pos fun h => hgo ⟨rfl, h⟩)
      have hall : (!(decS5 b).2.2 && (decS5 b).2.1.isEmpty) = decide ((decS5 b).2.2 = false ∧ (decS5 b).2.1 = []) := by
        rw [Bool.eq_iff_iff]; cases (decS5 b).2.2 <;> simp
      rw [hall] at hE
      by_cases hend : (decS5 b).2.2 = false ∧ (decS5 b).2.1 = []
      · rw [decide_eq_true hend] at hE
        by_cases hok : FrOk ⟨(decS1 b).1, (decS2 b).1, (decS3 b).1, ls, (decS5 b).1⟩
        · rw [decide_eq_true hok] at hR
          rw [if_pos ⟨hend.1, hend.2, by rw [hd]; exact hok⟩, hd]
          rcases hz' with rfl | rfl
          · refine Run ?_ trivial trivial trivial trivial trivial trivial trivial trivial trivial trivial trivial trivial
            simp [aone, AV.wk, AV.wkL, AV.wkL_bvA, bsAs_wk]
          · by_cases hm0 : mi > 0
            · refine Run ?_ trivial trivial trivial trivial trivial trivial trivial trivial trivial trivial trivial trivial
              simp [aone, AV.wk, AV.wkL, AV.wkL_bvA, bsAs_wk]
            · refine Run ?_ trivial trivial trivial trivial trivial trivial trivial trivial trivial trivial trivial trivial
              simp [aone, AV.wk, AV.wkL, AV.wkL_bvA, bsAs_wk]
        · rw [decide_eq_false hok] at hR
          rw [if_neg (fun h => hok (by rw [← hd]; exact h.2.2))]
          rcases hz' with rfl | rfl
          · refine Run ?_ trivial trivial trivial trivial trivial trivial trivial trivial trivial trivial trivial trivial
            simp [aone, AV.wk, AV.wkL, zeroF]
          · by_cases hm0 : mi > 0
            · refine Run ?_ trivial trivial trivial trivial trivial trivial trivial trivial trivial trivial trivial trivial
              simp [aone, AV.wk, AV.wkL, zeroF]
            · refine Run ?_ trivial trivial trivial trivial trivial trivial trivial trivial trivial trivial trivial trivial
              simp [aone, AV.wk, AV.wkL, zeroF]
      · rw [decide_eq_false hend] at hE
        rw [if_neg (fun h => hend ⟨h.1, h.2.1⟩)]
        rcases hz' with rfl | rfl
        · refine Run ?_ trivial trivial trivial trivial trivial trivial trivial trivial trivial trivial trivial trivial
          simp [aone, AV.wk, AV.wkL, zeroF]
        · by_cases hm0 : mi > 0
          · refine Run ?_ trivial trivial trivial trivial trivial trivial trivial trivial trivial trivial trivial trivial
            simp [aone, AV.wk, AV.wkL, zeroF]
          · refine Run ?_ trivial trivial trivial trivial trivial trivial trivial trivial trivial trivial trivial trivial
            simp [aone, AV.wk, AV.wkL, zeroF]
end Go.Proofs.Ytnjkklkjlloedaa
