/- The reference of layer 9 by the abstract machine: Read. -/
import Derived.Test.YtaffpkogcpkmjaaEnD
import Derived.Test.YtaffpkogcpkmjaaRfE2
namespace Go.Proofs.Ytaffpkogcpkmjaa
open Go.RowKit
set_option linter.unusedVariables false
set_option linter.unusedSimpArgs false
set_option maxRecDepth 10000
theorem suf_rwraps {B : List UInt8} : ∀ {n : Nat} {s : RS}, s.1 <:+ B → (rwraps n s).2.1 <:+ B
  | 0, s, h => h
  | n + 1, s, h => by
    unfold rwraps
    split
    · exact h
    · exact suf_rwraps (suf_rtext (suf_rnum h))
theorem ended_eq2 (s : RS) : (!s.2 && s.1.isEmpty) = decide (s.2 = false ∧ s.1 = []) := by
  rw [Bool.eq_iff_iff]; cases s.2 <;> simp
def enRd (b : List UInt8) : AV := if enOk b then .tup [enA (enF b).1, .bool true] else .tup [enA zeroE, .bool false]
theorem enRd_shut (b : List UInt8) : (enRd b).shut = true := by
  have h : ∀ e q, (AV.tup [enA e, .bool q]).shut = true := fun e q => by
    have := enA_shut e
    unfold AV.shut AV.shutL AV.shutL AV.shutL
    rw [this]
    simp [AV.shut]
  unfold enRd; split <;> exact h _ _
set_option maxHeartbeats 20000000 in
theorem refERead_val (b : List UInt8) (hm : b.length ≤ 1000000) : AVal Try.prog 24 [bsA b] (enRd b) := by
  refine AVal.mkw (by simp [AV.shutL, bsA_shut]) (enRd_shut _) ?_
  refine ACalls_body Try.func24 rfl rfl ?_
  simp only [Try.ntmps24, List.length_cons, List.length_nil, Nat.reduceAdd, Nat.reduceSub, List.replicate_succ, List.replicate_zero, List.cons_append, List.nil_append]
  have s1 : (enS1 b).2.1 <:+ b := suf_rnum (List.suffix_refl _)
  have s2 : (enS2 b).2.1 <:+ b := suf_rnum s1
  have s3 : (enS3 b).2.1 <:+ b := suf_rnum s2
  have h1 : AMth Try.prog 52 [bsA b, .int .i64 0, .bool false] [.int .i64 1, .int .i64 5] (.int .i64 (enS1 b).1) (rrC b (enS1 b).2.1 (enS1 b).2.2) := by
    have := refNumR_mth b b false 1 5 (List.suffix_refl _) hm
    unfold rrC at this
    rw [Nat.sub_self] at this
    exact this
  have h2 := refNumR_mth b (enS1 b).2.1 (enS1 b).2.2 1 16 s1 hm
  have h3 := refNumR_mth b (enS2 b).2.1 (enS2 b).2.2 1 1099511627776 s2 hm
  change AMth Try.prog _ _ _ (.int .i64 (enS2 b).1) (rrC b (enS2 b).2.1 (enS2 b).2.2) at h2
  change AMth Try.prog _ _ _ (.int .i64 (enS3 b).1) (rrC b (enS3 b).2.1 (enS3 b).2.2) at h3
  have hR := refRight_val (enF b).1 (by have := (enF_mid b).wraps; omega)
  unfold enRd
  by_cases k1 : (enS1 b).1 = 1
  · have hF : enF b = (⟨(enS1 b).1, (enS2 b).1, (enS3 b).1, (enT1 b).1, (enT2 b).1, 0, 0, 0, []⟩, (enT2 b).2) := by unfold enF; rw [if_pos k1]
    have t1 : (enT1 b).2.1 <:+ b := suf_rtext s3
    have t2 : (enT2 b).2.1 <:+ b := suf_rtext t1
    have g1 := refTextR_mth b (enS3 b).2.1 (enS3 b).2.2 1 64 s3 hm
    have g2 := refTextR_mth b (enT1 b).2.1 (enT1 b).2.2 0 512 t1 hm
    change AMth Try.prog _ _ _ (bsA (enT1 b).1) (rrC b (enT1 b).2.1 (enT1 b).2.2) at g1
    change AMth Try.prog _ _ _ (bsA (enT2 b).1) (rrC b (enT2 b).2.1 (enT2 b).2.2) at g2
    have hE := refEnd_mth b (enF b).2.1 (enF b).2.2 (by rw [hF]; exact t2) hm
    rw [ended_eq2] at hE
    have hR : AVal Try.prog 20 [.agg [.int .i64 (enS1 b).1, .int .i64 (enS2 b).1, .int .i64 (enS3 b).1, bsA (enT1 b).1, bsA (enT2 b).1, .int .i64 0, .int .i64 0, .int .i64 0, .sl .none [] 0]] (.bool (decide (EnOk (enF b).1))) := by rw [hF] at hR ⊢; exact hR
    by_cases hend : (enF b).2.2 = false ∧ (enF b).2.1 = []
    · rw [decide_eq_true hend] at hE
      by_cases hok : EnOk (enF b).1
      · rw [if_pos ⟨hend.1, hend.2, hok⟩]
        rw [decide_eq_true hok] at hR
        rw [hF] at hE ⊢
        refine Run ?_ trivial trivial (⟨Try.func53, rfl, rfl⟩ : Inl Try.prog 53 _ _ _) trivial trivial trivial trivial trivial trivial trivial trivial trivial
        simp [aone, AV.wk, AV.wkL, AV.wkL_bvA, wpCs_wk, wpCs]
      · rw [if_neg (fun h => hok h.2.2)]
        rw [decide_eq_false hok] at hR
        rw [hF] at hE
        refine Run ?_ trivial trivial (⟨Try.func53, rfl, rfl⟩ : Inl Try.prog 53 _ _ _) trivial trivial trivial trivial trivial trivial trivial trivial trivial
        simp [aone, AV.wk, AV.wkL, zeroE, wpCs]
    · rw [if_neg (fun h => hend ⟨h.1, h.2.1⟩)]
      rw [decide_eq_false hend] at hE
      rw [hF] at hE
      refine Run ?_ trivial trivial (⟨Try.func53, rfl, rfl⟩ : Inl Try.prog 53 _ _ _) trivial trivial trivial trivial trivial trivial trivial trivial trivial
      simp [aone, AV.wk, AV.wkL, zeroE, wpCs]
  by_cases k2 : (enS1 b).1 = 2
  · have hF : enF b = (⟨(enS1 b).1, (enS2 b).1, (enS3 b).1, (enT1 b).1, [], 0, 0, 0, []⟩, (enT1 b).2) := by unfold enF; rw [if_neg k1, if_pos k2]
    have t1 : (enT1 b).2.1 <:+ b := suf_rtext s3
    have g1 := refTextR_mth b (enS3 b).2.1 (enS3 b).2.2 1 64 s3 hm
    change AMth Try.prog _ _ _ (bsA (enT1 b).1) (rrC b (enT1 b).2.1 (enT1 b).2.2) at g1
    have hE := refEnd_mth b (enF b).2.1 (enF b).2.2 (by rw [hF]; exact t1) hm
    rw [ended_eq2] at hE
    have hR : AVal Try.prog 20 [.agg [.int .i64 (enS1 b).1, .int .i64 (enS2 b).1, .int .i64 (enS3 b).1, bsA (enT1 b).1, .sl .none [] 0, .int .i64 0, .int .i64 0, .int .i64 0, .sl .none [] 0]] (.bool (decide (EnOk (enF b).1))) := by rw [hF] at hR ⊢; exact hR
    by_cases hend : (enF b).2.2 = false ∧ (enF b).2.1 = []
    · rw [decide_eq_true hend] at hE
      by_cases hok : EnOk (enF b).1
      · rw [if_pos ⟨hend.1, hend.2, hok⟩]
        rw [decide_eq_true hok] at hR
        rw [hF] at hE ⊢
        refine Run ?_ trivial trivial (⟨Try.func53, rfl, rfl⟩ : Inl Try.prog 53 _ _ _) trivial trivial trivial trivial trivial trivial trivial trivial trivial
        simp [aone, AV.wk, AV.wkL, AV.wkL_bvA, wpCs_wk, wpCs]
      · rw [if_neg (fun h => hok h.2.2)]
        rw [decide_eq_false hok] at hR
        rw [hF] at hE
        refine Run ?_ trivial trivial (⟨Try.func53, rfl, rfl⟩ : Inl Try.prog 53 _ _ _) trivial trivial trivial trivial trivial trivial trivial trivial trivial
        simp [aone, AV.wk, AV.wkL, zeroE, wpCs]
    · rw [if_neg (fun h => hend ⟨h.1, h.2.1⟩)]
      rw [decide_eq_false hend] at hE
      rw [hF] at hE
      refine Run ?_ trivial trivial (⟨Try.func53, rfl, rfl⟩ : Inl Try.prog 53 _ _ _) trivial trivial trivial trivial trivial trivial trivial trivial trivial
      simp [aone, AV.wk, AV.wkL, zeroE, wpCs]
  by_cases k3 : (enS1 b).1 = 3
  · have hF : enF b = (⟨(enS1 b).1, (enS2 b).1, (enS3 b).1, [], [], (enW1 b).1, (enW2 b).1, 0, []⟩, (enW2 b).2) := by unfold enF; rw [if_neg k1, if_neg k2, if_pos k3]
    have t1 : (enW1 b).2.1 <:+ b := suf_rnum s3
    have t2 : (enW2 b).2.1 <:+ b := suf_rnum t1
    have g1 := refNumR_mth b (enS3 b).2.1 (enS3 b).2.2 1 16 s3 hm
    have g2 := refNumR_mth b (enW1 b).2.1 (enW1 b).2.2 1 7 t1 hm
    change AMth Try.prog _ _ _ (.int .i64 (enW1 b).1) (rrC b (enW1 b).2.1 (enW1 b).2.2) at g1
    change AMth Try.prog _ _ _ (.int .i64 (enW2 b).1) (rrC b (enW2 b).2.1 (enW2 b).2.2) at g2
    have hE := refEnd_mth b (enF b).2.1 (enF b).2.2 (by rw [hF]; exact t2) hm
    rw [ended_eq2] at hE
    have hR : AVal Try.prog 20 [.agg [.int .i64 (enS1 b).1, .int .i64 (enS2 b).1, .int .i64 (enS3 b).1, .sl .none [] 0, .sl .none [] 0, .int .i64 (enW1 b).1, .int .i64 (enW2 b).1, .int .i64 0, .sl .none [] 0]] (.bool (decide (EnOk (enF b).1))) := by rw [hF] at hR ⊢; exact hR
    by_cases hend : (enF b).2.2 = false ∧ (enF b).2.1 = []
    · rw [decide_eq_true hend] at hE
      by_cases hok : EnOk (enF b).1
      · rw [if_pos ⟨hend.1, hend.2, hok⟩]
        rw [decide_eq_true hok] at hR
        rw [hF] at hE ⊢
        refine Run ?_ trivial trivial (⟨Try.func53, rfl, rfl⟩ : Inl Try.prog 53 _ _ _) trivial trivial trivial trivial trivial trivial trivial trivial trivial
        simp [aone, AV.wk, AV.wkL, AV.wkL_bvA, wpCs_wk, wpCs]
      · rw [if_neg (fun h => hok h.2.2)]
        rw [decide_eq_false hok] at hR
        rw [hF] at hE
        refine Run ?_ trivial trivial (⟨Try.func53, rfl, rfl⟩ : Inl Try.prog 53 _ _ _) trivial trivial trivial trivial trivial trivial trivial trivial trivial
        simp [aone, AV.wk, AV.wkL, zeroE, wpCs]
    · rw [if_neg (fun h => hend ⟨h.1, h.2.1⟩)]
      rw [decide_eq_false hend] at hE
      rw [hF] at hE
      refine Run ?_ trivial trivial (⟨Try.func53, rfl, rfl⟩ : Inl Try.prog 53 _ _ _) trivial trivial trivial trivial trivial trivial trivial trivial trivial
      simp [aone, AV.wk, AV.wkL, zeroE, wpCs]
  by_cases k4 : (enS1 b).1 = 4
  · have hF : enF b = (⟨(enS1 b).1, (enS2 b).1, (enS3 b).1, [], [], (enW1 b).1, 0, 0, []⟩, (enW1 b).2) := by unfold enF; rw [if_neg k1, if_neg k2, if_neg k3, if_pos k4]
    have t1 : (enW1 b).2.1 <:+ b := suf_rnum s3
    have g1 := refNumR_mth b (enS3 b).2.1 (enS3 b).2.2 1 16 s3 hm
    change AMth Try.prog _ _ _ (.int .i64 (enW1 b).1) (rrC b (enW1 b).2.1 (enW1 b).2.2) at g1
    have hE := refEnd_mth b (enF b).2.1 (enF b).2.2 (by rw [hF]; exact t1) hm
    rw [ended_eq2] at hE
    have hR : AVal Try.prog 20 [.agg [.int .i64 (enS1 b).1, .int .i64 (enS2 b).1, .int .i64 (enS3 b).1, .sl .none [] 0, .sl .none [] 0, .int .i64 (enW1 b).1, .int .i64 0, .int .i64 0, .sl .none [] 0]] (.bool (decide (EnOk (enF b).1))) := by rw [hF] at hR ⊢; exact hR
    by_cases hend : (enF b).2.2 = false ∧ (enF b).2.1 = []
    · rw [decide_eq_true hend] at hE
      by_cases hok : EnOk (enF b).1
      · rw [if_pos ⟨hend.1, hend.2, hok⟩]
        rw [decide_eq_true hok] at hR
        rw [hF] at hE ⊢
        refine Run ?_ trivial trivial (⟨Try.func53, rfl, rfl⟩ : Inl Try.prog 53 _ _ _) trivial trivial trivial trivial trivial trivial trivial trivial trivial
        simp [aone, AV.wk, AV.wkL, AV.wkL_bvA, wpCs_wk, wpCs]
      · rw [if_neg (fun h => hok h.2.2)]
        rw [decide_eq_false hok] at hR
        rw [hF] at hE
        refine Run ?_ trivial trivial (⟨Try.func53, rfl, rfl⟩ : Inl Try.prog 53 _ _ _) trivial trivial trivial trivial trivial trivial trivial trivial trivial
        simp [aone, AV.wk, AV.wkL, zeroE, wpCs]
    · rw [if_neg (fun h => hend ⟨h.1, h.2.1⟩)]
      rw [decide_eq_false hend] at hE
      rw [hF] at hE
      refine Run ?_ trivial trivial (⟨Try.func53, rfl, rfl⟩ : Inl Try.prog 53 _ _ _) trivial trivial trivial trivial trivial trivial trivial trivial trivial
      simp [aone, AV.wk, AV.wkL, zeroE, wpCs]
  by_cases k5 : ¬ (enS1 b).1 = 5
  · have hF : enF b = (⟨(enS1 b).1, (enS2 b).1, (enS3 b).1, [], [], 0, 0, 0, []⟩, (enS3 b).2) := by unfold enF; rw [if_neg k1, if_neg k2, if_neg k3, if_neg k4, if_neg k5]
    have hE := refEnd_mth b (enF b).2.1 (enF b).2.2 (by rw [hF]; exact s3) hm
    rw [ended_eq2] at hE
    have hR : AVal Try.prog 20 [.agg [.int .i64 (enS1 b).1, .int .i64 (enS2 b).1, .int .i64 (enS3 b).1, .sl .none [] 0, .sl .none [] 0, .int .i64 0, .int .i64 0, .int .i64 0, .sl .none [] 0]] (.bool (decide (EnOk (enF b).1))) := by rw [hF] at hR ⊢; exact hR
    by_cases hend : (enF b).2.2 = false ∧ (enF b).2.1 = []
    · rw [decide_eq_true hend] at hE
      by_cases hok : EnOk (enF b).1
      · rw [if_pos ⟨hend.1, hend.2, hok⟩]
        rw [decide_eq_true hok] at hR
        rw [hF] at hE ⊢
        refine Run ?_ trivial trivial (⟨Try.func53, rfl, rfl⟩ : Inl Try.prog 53 _ _ _) trivial trivial trivial trivial trivial trivial trivial trivial trivial
        simp [aone, AV.wk, AV.wkL, AV.wkL_bvA, wpCs_wk, wpCs]
      · rw [if_neg (fun h => hok h.2.2)]
        rw [decide_eq_false hok] at hR
        rw [hF] at hE
        refine Run ?_ trivial trivial (⟨Try.func53, rfl, rfl⟩ : Inl Try.prog 53 _ _ _) trivial trivial trivial trivial trivial trivial trivial trivial trivial
        simp [aone, AV.wk, AV.wkL, zeroE, wpCs]
    · rw [if_neg (fun h => hend ⟨h.1, h.2.1⟩)]
      rw [decide_eq_false hend] at hE
      rw [hF] at hE
      refine Run ?_ trivial trivial (⟨Try.func53, rfl, rfl⟩ : Inl Try.prog 53 _ _ _) trivial trivial trivial trivial trivial trivial trivial trivial trivial
      simp [aone, AV.wk, AV.wkL, zeroE, wpCs]
  · have k5 : (enS1 b).1 = 5 := Classical.byContradiction k5
    have hF : enF b = (⟨(enS1 b).1, (enS2 b).1, (enS3 b).1, [], [], 0, 0, (enE1 b).1, (enE3 b).1⟩, (enE3 b).2) := by unfold enF; rw [if_neg k1, if_neg k2, if_neg k3, if_neg k4, if_pos k5]
    have t1 : (enE1 b).2.1 <:+ b := suf_rnum s3
    have t2 : (enE2 b).2.1 <:+ b := suf_rnum t1
    have t3 : (enE3 b).2.1 <:+ b := suf_rwraps t2
    have g1 := refNumR_mth b (enS3 b).2.1 (enS3 b).2.2 1 16 s3 hm
    have g2 := refNumR_mth b (enE1 b).2.1 (enE1 b).2.2 0 16 t1 hm
    change AMth Try.prog _ _ _ (.int .i64 (enE1 b).1) (rrC b (enE1 b).2.1 (enE1 b).2.2) at g1
    change AMth Try.prog _ _ _ (.int .i64 (enE2 b).1) (rrC b (enE2 b).2.1 (enE2 b).2.2) at g2
    clear hR
    refine Run ?_ trivial trivial (⟨Try.func53, rfl, rfl⟩ : Inl Try.prog 53 _ _ _) trivial trivial trivial trivial trivial trivial trivial trivial trivial
    have hE := refEnd_mth b (enF b).2.1 (enF b).2.2 (by rw [hF]; exact t3) hm
    rw [ended_eq2] at hE
    have hN := rnum_range (least := 0) (most := 16) (enE1 b).2 (by omega) (by omega)
    obtain ⟨n0, hn0⟩ := Int.eq_ofNat_of_zero_le hN.1
    change (enE2 b).1 = (n0 : Int) at hn0
    have hn16 : n0 ≤ 16 := by have := hN.2; change (enE2 b).1 ≤ 16 at this; omega
    have hL : enE3 b = rwraps n0 (enE2 b).2 := by unfold enE3; rw [hn0]; rfl
    rw [hn0]
    clear h1 h2 h3 g1 g2 hN
    refine AWP_adoptO 2 8 2 rfl rfl rfl rfl ?_
    refine AWP_loopW [5, 6, 58, 59, 60, 61, 62, 63, 64, 65, 66, 67, 68, 69, 70, 71, 72, 73, 74, 75, 76, 77, 78, 79, 80, 81, 82, 83, 84, 85] (N := Nat × Int × List UInt8 × Bool × List Wp × Nat × List AV × Int × List AV) (fun ⟨m, j, l, bad, ws, n, cs, nx, js⟩ => [.int .i64 j, js.getD 0 .und, js.getD 1 .und, js.getD 2 .und, js.getD 3 .und, js.getD 4 .und, js.getD 5 .und, js.getD 6 .und, js.getD 7 .und, js.getD 8 .und, js.getD 9 .und, js.getD 10 .und, js.getD 11 .und, js.getD 12 .und, js.getD 13 .und, js.getD 14 .und, js.getD 15 .und, js.getD 16 .und, js.getD 17 .und, js.getD 18 .und, js.getD 19 .und, js.getD 20 .und, js.getD 21 .und, js.getD 22 .und, js.getD 23 .und, js.getD 24 .und, js.getD 25 .und, js.getD 26 .und, js.getD 27 .und, js.getD 28 .und]) (fun ⟨m, j, l, bad, ws, n, cs, nx, js⟩ => ⟨[(2, [.int .i64 (enS1 b).1, .int .i64 (enS2 b).1, .int .i64 (enS3 b).1, .nils, .nils, .int .i64 0, .int .i64 0, .int .i64 (enE1 b).1, .sl (.tok 3 n 2) cs n]), (1, rrC b l bad), (0, [.int .i64 0, .int .i64 0, .int .i64 0, .nils, .nils, .int .i64 0, .int .i64 0, .int .i64 0, .nils])], [(3, n)], nx⟩) (fun ⟨m, j, l, bad, ws, n, cs, nx, js⟩ => enE3 b = (ws ++ (rwraps m (l, bad)).1, (rwraps m (l, bad)).2) ∧ cs = wpCs ws ∧ n = ws.length ∧ n + m ≤ 16 ∧ j + m = n0 ∧ l <:+ b ∧ 0 ≤ j ∧ 4 ≤ nx) (fun ⟨m, j, l, bad, ws, n, cs, nx, js⟩ => m) ⟨n0, 0, (enE2 b).2.1, (enE2 b).2.2, [], 0, [], 4, [_, _, _, _, _, _, _, _, _, _, _, _, _, _, _, _, _, _, _, _, _, _, _, _, _, _, _, _, _]⟩ rfl ?hs0 ?hi0 ?_
    rotate_left 2
    rintro ⟨m, j, l, bad, ws, n, cs, nx, js⟩ sl_ hs hi
    simp only [setsF, setF, Option.some.injEq] at hs
    subst hs
    case hs0 => exact ASub.refl _
    case hi0 => exact ⟨hL, rfl, rfl, by omega, by omega, t2, by omega, by omega⟩
    obtain ⟨hl, hcs, hn, hle, hmi, hsuf, hj0, hnx⟩ := hi
    by_cases hgo : bad = false ∧ 0 < m
    · obtain ⟨rfl, hm0⟩ := hgo
      obtain ⟨m, rfl⟩ : ∃ j, m = j + 1 := ⟨m - 1, by omega⟩
      have hW := refNumR_mth b l false 1 16 hsuf hm
      have hsw := suf_rnum (least := 1) (most := 16) (s := (l, false)) hsuf
      generalize ht : rnum 1 16 (l, false) = q at hW hsw
      obtain ⟨v, l1, b1⟩ := q
      dsimp only at hW hsw
      have hT := refTextR_mth b l1 b1 48 48 hsw hm
      have hst := suf_rtext (least := 48) (most := 48) (s := (l1, b1)) hsw
      generalize ht2 : rtext 48 48 (l1, b1) = q2 at hT hst
      obtain ⟨t, l2, b2⟩ := q2
      dsimp only at hT hst
      have hl2 : enE3 b = ((ws ++ [⟨v, t⟩]) ++ (rwraps m (l2, b2)).1, (rwraps m (l2, b2)).2) := by
        rw [hl]
        conv => lhs; unfold rwraps
        rw [if_neg (by simp), ht]
        dsimp only
        rw [ht2]
        simp
      refine Run ?_ trivial trivial trivial trivial trivial trivial trivial trivial trivial trivial trivial trivial
      refine ALoopW_normal ⟨m, _, l2, b2, ws ++ [⟨v, t⟩], n + 1, cs ++ [.int .i64 v, bsA t], nx + 1, [_, _, _, _, _, _, _, _, _, _, _, _, _, _, _, _, _, _, _, _, _, _, _, _, _, _, _, _, _]⟩ rfl ?hs1 ?hi1 ?hm1
      case hs1 => exact (ASub.refl _).drop (by simp only [alook]; repeat (first | rw [if_neg (by omega)]))
      case hi1 => exact ⟨hl2, by rw [hcs]; simp [wpCs, wpC], by rw [List.length_append, hn]; rfl, by omega, by omega, hst, by omega, by omega⟩
      case hm1 => simp only; omega
    · have hz : rwraps m (l, bad) = ([], (l, bad)) := by
        cases m with
        | zero => rfl
        | succ m => cases bad with
          | true => unfold rwraps; rw [if_pos rfl]
          | false => exact absurd ⟨rfl, by omega⟩ hgo
      rw [hz, List.append_nil] at hl
      dsimp only at hl
      have hz' : m = 0 ∨ bad = true := by
        cases bad with
        | true => exact .inr rfl
        | false => exact .inl (Nat.eq_zero_of_not_pos fun h => hgo ⟨rfl, h⟩)
      have hR : AVal Try.prog 20 [.agg [.int .i64 (enS1 b).1, .int .i64 (enS2 b).1, .int .i64 (enS3 b).1, .sl .none [] 0, .sl .none [] 0, .int .i64 0, .int .i64 0, .int .i64 (enE1 b).1, .sl .none (wpCs ws) ws.length]] (.bool (decide (EnOk (enF b).1))) := by
        have := refRight_val (enF b).1 (by have := (enF_mid b).wraps; omega)
        rw [hF, hl] at this ⊢
        exact this
      subst hcs hn
      rcases hz' with rfl | rfl
      · by_cases hend : (enF b).2.2 = false ∧ (enF b).2.1 = []
        · rw [decide_eq_true hend] at hE
          by_cases hok : EnOk (enF b).1
          · rw [if_pos ⟨hend.1, hend.2, hok⟩]
            rw [decide_eq_true hok] at hR
            rw [hF, hl] at hE ⊢
            dsimp only at hE ⊢
            refine Run ?_ trivial trivial trivial trivial trivial trivial trivial trivial trivial @wpCs_wk trivial trivial
            simp only [aone, AV.wk, AV.wkL, AV.wkL_bvA, wpCs_wk]
            rfl
          · rw [if_neg (fun h => hok h.2.2)]
            rw [decide_eq_false hok] at hR
            rw [hF, hl] at hE
            dsimp only at hE
            refine Run ?_ trivial trivial trivial trivial trivial trivial trivial trivial trivial @wpCs_wk trivial trivial
            simp [aone, AV.wk, AV.wkL, zeroE, wpCs]
        · rw [if_neg (fun h => hend ⟨h.1, h.2.1⟩)]
          rw [decide_eq_false hend] at hE
          rw [hF, hl] at hE
          dsimp only at hE
          refine Run ?_ trivial trivial trivial trivial trivial trivial trivial trivial trivial trivial trivial trivial
          simp [aone, AV.wk, AV.wkL, zeroE, wpCs]
      · by_cases hm0 : j < n0
        · by_cases hend : (enF b).2.2 = false ∧ (enF b).2.1 = []
          · rw [decide_eq_true hend] at hE
            by_cases hok : EnOk (enF b).1
            · rw [if_pos ⟨hend.1, hend.2, hok⟩]
              rw [decide_eq_true hok] at hR
              rw [hF, hl] at hE ⊢
              dsimp only at hE ⊢
              refine Run ?_ trivial trivial trivial trivial trivial trivial trivial trivial trivial @wpCs_wk trivial trivial
              simp only [aone, AV.wk, AV.wkL, AV.wkL_bvA, wpCs_wk]
              rfl
            · rw [if_neg (fun h => hok h.2.2)]
              rw [decide_eq_false hok] at hR
              rw [hF, hl] at hE
              dsimp only at hE
              refine Run ?_ trivial trivial trivial trivial trivial trivial trivial trivial trivial @wpCs_wk trivial trivial
              simp [aone, AV.wk, AV.wkL, zeroE, wpCs]
          · rw [if_neg (fun h => hend ⟨h.1, h.2.1⟩)]
            rw [decide_eq_false hend] at hE
            rw [hF, hl] at hE
            dsimp only at hE
            refine Run ?_ trivial trivial trivial trivial trivial trivial trivial trivial trivial trivial trivial trivial
            simp [aone, AV.wk, AV.wkL, zeroE, wpCs]
        · by_cases hend : (enF b).2.2 = false ∧ (enF b).2.1 = []
          · rw [decide_eq_true hend] at hE
            by_cases hok : EnOk (enF b).1
            · rw [if_pos ⟨hend.1, hend.2, hok⟩]
              rw [decide_eq_true hok] at hR
              rw [hF, hl] at hE ⊢
              dsimp only at hE ⊢
              refine Run ?_ trivial trivial trivial trivial trivial trivial trivial trivial trivial @wpCs_wk trivial trivial
              simp only [aone, AV.wk, AV.wkL, AV.wkL_bvA, wpCs_wk]
              rfl
            · rw [if_neg (fun h => hok h.2.2)]
              rw [decide_eq_false hok] at hR
              rw [hF, hl] at hE
              dsimp only at hE
              refine Run ?_ trivial trivial trivial trivial trivial trivial trivial trivial trivial @wpCs_wk trivial trivial
              simp [aone, AV.wk, AV.wkL, zeroE, wpCs]
          · rw [if_neg (fun h => hend ⟨h.1, h.2.1⟩)]
            rw [decide_eq_false hend] at hE
            rw [hF, hl] at hE
            dsimp only at hE
            refine Run ?_ trivial trivial trivial trivial trivial trivial trivial trivial trivial trivial trivial trivial
            simp [aone, AV.wk, AV.wkL, zeroE, wpCs]
end Go.Proofs.Ytaffpkogcpkmjaa
