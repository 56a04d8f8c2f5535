/- entry: Decode keeps nothing of what it reads. -/
import Derived.Test.YtaffpkogcpkmjaaEnQ
namespace Go.Proofs.Ytaffpkogcpkmjaa
open Go.RowKit
set_option linter.unusedVariables false
set_option linter.unusedSimpArgs false
set_option maxRecDepth 10000
set_option maxHeartbeats 20000000 in
theorem endecode_buf (b : List UInt8) (j : Nat) (hm : b.length ≤ 1000000) : AVw Try.prog 21 (b.map bvA ++ anys j) b.length (b.length + j) [] (enD b) := by
  refine AVw.mk rfl (shutL_append _ _ (shutL_bvA _) (anys_shut _)) (enD_shut _) ?_
  refine ACalls_body Try.func21 rfl rfl ?_
  simp only [Try.ntmps21, List.length_cons, List.length_nil, Nat.reduceAdd, Nat.reduceSub, List.replicate_succ, List.replicate_zero, List.cons_append, List.nil_append]
  refine Run ?_ trivial trivial (⟨Try.func43, rfl, rfl⟩ : Inl Try.prog 43 _ _ _) trivial trivial trivial trivial trivial trivial trivial trivial trivial
  with_reducible apply T_append_nilsS
  case hx => rfl
  case hy => rfl
  case hS => exact SrcS_buf (cells := b.map bvA) inferInstance rfl (by rw [List.drop_zero, Nat.mul_one]; exact List.take_left' (by simp)) (by simp) (bvA_ones _)
  case hb => constructor <;> omega
  case hs => exact aput_ok rfl
  refine Run ?_ trivial trivial trivial trivial trivial trivial trivial trivial trivial trivial trivial trivial
  refine AOPS_weakS (σ1 := ⟨[(4, [.ptr 3 0]), (3, rdC b false), (1, [.int .i64 0, .int .i64 0, .int .i64 0, .nils, .nils, .int .i64 0, .int .i64 0, .int .i64 0, .nils]), (0, b.map bvA ++ anys j)], [], 5⟩) (.cons (.cons (.cons (.cons (.nil (by decide)) (.inl rfl)) (.inl rfl)) (.inr (by simp [rdC, AV.wkL, AV.wk, AV.wkL_bvA]))) (.inl rfl)) ?_
  have h1 := num_mth b false 1 5
  have h2 := num_mth (enS1 b).2.1 (enS1 b).2.2 1 16
  have h3 := num_mth (enS2 b).2.1 (enS2 b).2.2 1 1099511627776
  change AMth Try.prog _ _ _ (.int .i64 (enS1 b).1) (rdC (enS1 b).2.1 (enS1 b).2.2) at h1
  change AMth Try.prog _ _ _ (.int .i64 (enS2 b).1) (rdC (enS2 b).2.1 (enS2 b).2.2) at h2
  change AMth Try.prog _ _ _ (.int .i64 (enS3 b).1) (rdC (enS3 b).2.1 (enS3 b).2.2) at h3
  have hE := end_mth (enF b).2.1 (enF b).2.2
  rw [ended_eq] at hE
  have hR := enright_val (enF b).1 (enF_mid b)
  unfold enD
  by_cases k1 : (enS1 b).1 = 1
  · have hF : enF b = (⟨(enS1 b).1, (enS2 b).1, (enS3 b).1, (enT1 b).1, (enT2 b).1, 0, 0, 0, []⟩, (enT2 b).2) := by unfold enF; rw [if_pos k1]
    have g1 := text_mth (enS3 b).2.1 (enS3 b).2.2 1 64
    have g2 := text_mth (enT1 b).2.1 (enT1 b).2.2 0 512
    change AMth Try.prog _ _ _ (bsA (enT1 b).1) (rdC (enT1 b).2.1 (enT1 b).2.2) at g1
    change AMth Try.prog _ _ _ (bsA (enT2 b).1) (rdC (enT2 b).2.1 (enT2 b).2.2) at g2
    have hR : AVal Try.prog 19 [.agg [.int .i64 (enS1 b).1, .int .i64 (enS2 b).1, .int .i64 (enS3 b).1, bsA (enT1 b).1, bsA (enT2 b).1, .int .i64 0, .int .i64 0, .int .i64 0, .sl .none [] 0]] (.bool (decide (EnOk (enF b).1))) := by rw [hF] at hR ⊢; exact hR
    by_cases hend : (enF b).2.2 = false ∧ (enF b).2.1 = []
    · rw [decide_eq_true hend] at hE
      by_cases hok : EnOk (enF b).1
      · rw [if_pos ⟨hend.1, hend.2, hok⟩]
        rw [decide_eq_true hok] at hR
        rw [hF] at hE ⊢
        refine Run ?_ trivial trivial (⟨Try.func44, rfl, rfl⟩ : Inl Try.prog 44 _ _ _) trivial trivial trivial trivial trivial trivial trivial trivial trivial
        exact ⟨by simp [aone, AV.wk, AV.wkL, AV.wkL_bvA, wpCs_wk, wpCs], (by first | decide | omega | (simp only; omega)), rfl⟩
      · rw [if_neg (fun h => hok h.2.2)]
        rw [decide_eq_false hok] at hR
        rw [hF] at hE
        refine Run ?_ trivial trivial (⟨Try.func44, rfl, rfl⟩ : Inl Try.prog 44 _ _ _) trivial trivial trivial trivial trivial trivial trivial trivial trivial
        exact ⟨by simp [aone, AV.wk, AV.wkL, zeroE, wpCs], (by first | decide | omega | (simp only; omega)), rfl⟩
    · rw [if_neg (fun h => hend ⟨h.1, h.2.1⟩)]
      rw [decide_eq_false hend] at hE
      rw [hF] at hE
      refine Run ?_ trivial trivial (⟨Try.func44, rfl, rfl⟩ : Inl Try.prog 44 _ _ _) trivial trivial trivial trivial trivial trivial trivial trivial trivial
      exact ⟨by simp [aone, AV.wk, AV.wkL, zeroE, wpCs], (by first | decide | omega | (simp only; omega)), rfl⟩
  by_cases k2 : (enS1 b).1 = 2
  · have hF : enF b = (⟨(enS1 b).1, (enS2 b).1, (enS3 b).1, (enT1 b).1, [], 0, 0, 0, []⟩, (enT1 b).2) := by unfold enF; rw [if_neg k1, if_pos k2]
    have g1 := text_mth (enS3 b).2.1 (enS3 b).2.2 1 64
    change AMth Try.prog _ _ _ (bsA (enT1 b).1) (rdC (enT1 b).2.1 (enT1 b).2.2) at g1
    have hR : AVal Try.prog 19 [.agg [.int .i64 (enS1 b).1, .int .i64 (enS2 b).1, .int .i64 (enS3 b).1, bsA (enT1 b).1, .sl .none [] 0, .int .i64 0, .int .i64 0, .int .i64 0, .sl .none [] 0]] (.bool (decide (EnOk (enF b).1))) := by rw [hF] at hR ⊢; exact hR
    by_cases hend : (enF b).2.2 = false ∧ (enF b).2.1 = []
    · rw [decide_eq_true hend] at hE
      by_cases hok : EnOk (enF b).1
      · rw [if_pos ⟨hend.1, hend.2, hok⟩]
        rw [decide_eq_true hok] at hR
        rw [hF] at hE ⊢
        refine Run ?_ trivial trivial (⟨Try.func44, rfl, rfl⟩ : Inl Try.prog 44 _ _ _) trivial trivial trivial trivial trivial trivial trivial trivial trivial
        exact ⟨by simp [aone, AV.wk, AV.wkL, AV.wkL_bvA, wpCs_wk, wpCs], (by first | decide | omega | (simp only; omega)), rfl⟩
      · rw [if_neg (fun h => hok h.2.2)]
        rw [decide_eq_false hok] at hR
        rw [hF] at hE
        refine Run ?_ trivial trivial (⟨Try.func44, rfl, rfl⟩ : Inl Try.prog 44 _ _ _) trivial trivial trivial trivial trivial trivial trivial trivial trivial
        exact ⟨by simp [aone, AV.wk, AV.wkL, zeroE, wpCs], (by first | decide | omega | (simp only; omega)), rfl⟩
    · rw [if_neg (fun h => hend ⟨h.1, h.2.1⟩)]
      rw [decide_eq_false hend] at hE
      rw [hF] at hE
      refine Run ?_ trivial trivial (⟨Try.func44, rfl, rfl⟩ : Inl Try.prog 44 _ _ _) trivial trivial trivial trivial trivial trivial trivial trivial trivial
      exact ⟨by simp [aone, AV.wk, AV.wkL, zeroE, wpCs], (by first | decide | omega | (simp only; omega)), rfl⟩
  by_cases k3 : (enS1 b).1 = 3
  · have hF : enF b = (⟨(enS1 b).1, (enS2 b).1, (enS3 b).1, [], [], (enW1 b).1, (enW2 b).1, 0, []⟩, (enW2 b).2) := by unfold enF; rw [if_neg k1, if_neg k2, if_pos k3]
    have g1 := num_mth (enS3 b).2.1 (enS3 b).2.2 1 16
    have g2 := num_mth (enW1 b).2.1 (enW1 b).2.2 1 7
    change AMth Try.prog _ _ _ (.int .i64 (enW1 b).1) (rdC (enW1 b).2.1 (enW1 b).2.2) at g1
    change AMth Try.prog _ _ _ (.int .i64 (enW2 b).1) (rdC (enW2 b).2.1 (enW2 b).2.2) at g2
    have hR : AVal Try.prog 19 [.agg [.int .i64 (enS1 b).1, .int .i64 (enS2 b).1, .int .i64 (enS3 b).1, .sl .none [] 0, .sl .none [] 0, .int .i64 (enW1 b).1, .int .i64 (enW2 b).1, .int .i64 0, .sl .none [] 0]] (.bool (decide (EnOk (enF b).1))) := by rw [hF] at hR ⊢; exact hR
    by_cases hend : (enF b).2.2 = false ∧ (enF b).2.1 = []
    · rw [decide_eq_true hend] at hE
      by_cases hok : EnOk (enF b).1
      · rw [if_pos ⟨hend.1, hend.2, hok⟩]
        rw [decide_eq_true hok] at hR
        rw [hF] at hE ⊢
        refine Run ?_ trivial trivial (⟨Try.func44, rfl, rfl⟩ : Inl Try.prog 44 _ _ _) trivial trivial trivial trivial trivial trivial trivial trivial trivial
        exact ⟨by simp [aone, AV.wk, AV.wkL, AV.wkL_bvA, wpCs_wk, wpCs], (by first | decide | omega | (simp only; omega)), rfl⟩
      · rw [if_neg (fun h => hok h.2.2)]
        rw [decide_eq_false hok] at hR
        rw [hF] at hE
        refine Run ?_ trivial trivial (⟨Try.func44, rfl, rfl⟩ : Inl Try.prog 44 _ _ _) trivial trivial trivial trivial trivial trivial trivial trivial trivial
        exact ⟨by simp [aone, AV.wk, AV.wkL, zeroE, wpCs], (by first | decide | omega | (simp only; omega)), rfl⟩
    · rw [if_neg (fun h => hend ⟨h.1, h.2.1⟩)]
      rw [decide_eq_false hend] at hE
      rw [hF] at hE
      refine Run ?_ trivial trivial (⟨Try.func44, rfl, rfl⟩ : Inl Try.prog 44 _ _ _) trivial trivial trivial trivial trivial trivial trivial trivial trivial
      exact ⟨by simp [aone, AV.wk, AV.wkL, zeroE, wpCs], (by first | decide | omega | (simp only; omega)), rfl⟩
  by_cases k4 : (enS1 b).1 = 4
  · have hF : enF b = (⟨(enS1 b).1, (enS2 b).1, (enS3 b).1, [], [], (enW1 b).1, 0, 0, []⟩, (enW1 b).2) := by unfold enF; rw [if_neg k1, if_neg k2, if_neg k3, if_pos k4]
    have g1 := num_mth (enS3 b).2.1 (enS3 b).2.2 1 16
    change AMth Try.prog _ _ _ (.int .i64 (enW1 b).1) (rdC (enW1 b).2.1 (enW1 b).2.2) at g1
    have hR : AVal Try.prog 19 [.agg [.int .i64 (enS1 b).1, .int .i64 (enS2 b).1, .int .i64 (enS3 b).1, .sl .none [] 0, .sl .none [] 0, .int .i64 (enW1 b).1, .int .i64 0, .int .i64 0, .sl .none [] 0]] (.bool (decide (EnOk (enF b).1))) := by rw [hF] at hR ⊢; exact hR
    by_cases hend : (enF b).2.2 = false ∧ (enF b).2.1 = []
    · rw [decide_eq_true hend] at hE
      by_cases hok : EnOk (enF b).1
      · rw [if_pos ⟨hend.1, hend.2, hok⟩]
        rw [decide_eq_true hok] at hR
        rw [hF] at hE ⊢
        refine Run ?_ trivial trivial (⟨Try.func44, rfl, rfl⟩ : Inl Try.prog 44 _ _ _) trivial trivial trivial trivial trivial trivial trivial trivial trivial
        exact ⟨by simp [aone, AV.wk, AV.wkL, AV.wkL_bvA, wpCs_wk, wpCs], (by first | decide | omega | (simp only; omega)), rfl⟩
      · rw [if_neg (fun h => hok h.2.2)]
        rw [decide_eq_false hok] at hR
        rw [hF] at hE
        refine Run ?_ trivial trivial (⟨Try.func44, rfl, rfl⟩ : Inl Try.prog 44 _ _ _) trivial trivial trivial trivial trivial trivial trivial trivial trivial
        exact ⟨by simp [aone, AV.wk, AV.wkL, zeroE, wpCs], (by first | decide | omega | (simp only; omega)), rfl⟩
    · rw [if_neg (fun h => hend ⟨h.1, h.2.1⟩)]
      rw [decide_eq_false hend] at hE
      rw [hF] at hE
      refine Run ?_ trivial trivial (⟨Try.func44, rfl, rfl⟩ : Inl Try.prog 44 _ _ _) trivial trivial trivial trivial trivial trivial trivial trivial trivial
      exact ⟨by simp [aone, AV.wk, AV.wkL, zeroE, wpCs], (by first | decide | omega | (simp only; omega)), rfl⟩
  by_cases k5 : ¬ (enS1 b).1 = 5
  · have hF : enF b = (⟨(enS1 b).1, (enS2 b).1, (enS3 b).1, [], [], 0, 0, 0, []⟩, (enS3 b).2) := by unfold enF; rw [if_neg k1, if_neg k2, if_neg k3, if_neg k4, if_neg k5]
    have hR : AVal Try.prog 19 [.agg [.int .i64 (enS1 b).1, .int .i64 (enS2 b).1, .int .i64 (enS3 b).1, .sl .none [] 0, .sl .none [] 0, .int .i64 0, .int .i64 0, .int .i64 0, .sl .none [] 0]] (.bool (decide (EnOk (enF b).1))) := by rw [hF] at hR ⊢; exact hR
    by_cases hend : (enF b).2.2 = false ∧ (enF b).2.1 = []
    · rw [decide_eq_true hend] at hE
      by_cases hok : EnOk (enF b).1
      · rw [if_pos ⟨hend.1, hend.2, hok⟩]
        rw [decide_eq_true hok] at hR
        rw [hF] at hE ⊢
        refine Run ?_ trivial trivial (⟨Try.func44, rfl, rfl⟩ : Inl Try.prog 44 _ _ _) trivial trivial trivial trivial trivial trivial trivial trivial trivial
        exact ⟨by simp [aone, AV.wk, AV.wkL, AV.wkL_bvA, wpCs_wk, wpCs], (by first | decide | omega | (simp only; omega)), rfl⟩
      · rw [if_neg (fun h => hok h.2.2)]
        rw [decide_eq_false hok] at hR
        rw [hF] at hE
        refine Run ?_ trivial trivial (⟨Try.func44, rfl, rfl⟩ : Inl Try.prog 44 _ _ _) trivial trivial trivial trivial trivial trivial trivial trivial trivial
        exact ⟨by simp [aone, AV.wk, AV.wkL, zeroE, wpCs], (by first | decide | omega | (simp only; omega)), rfl⟩
    · rw [if_neg (fun h => hend ⟨h.1, h.2.1⟩)]
      rw [decide_eq_false hend] at hE
      rw [hF] at hE
      refine Run ?_ trivial trivial (⟨Try.func44, rfl, rfl⟩ : Inl Try.prog 44 _ _ _) trivial trivial trivial trivial trivial trivial trivial trivial trivial
      exact ⟨by simp [aone, AV.wk, AV.wkL, zeroE, wpCs], (by first | decide | omega | (simp only; omega)), rfl⟩
  · have k5 : (enS1 b).1 = 5 := Classical.byContradiction k5
    have hF : enF b = (⟨(enS1 b).1, (enS2 b).1, (enS3 b).1, [], [], 0, 0, (enE1 b).1, (enE3 b).1⟩, (enE3 b).2) := by unfold enF; rw [if_neg k1, if_neg k2, if_neg k3, if_neg k4, if_pos k5]
    have g1 := num_mth (enS3 b).2.1 (enS3 b).2.2 1 16
    have g2 := num_mth (enE1 b).2.1 (enE1 b).2.2 0 16
    change AMth Try.prog _ _ _ (.int .i64 (enE1 b).1) (rdC (enE1 b).2.1 (enE1 b).2.2) at g1
    change AMth Try.prog _ _ _ (.int .i64 (enE2 b).1) (rdC (enE2 b).2.1 (enE2 b).2.2) at g2
    clear hE hR
    refine Run ?_ trivial trivial (⟨Try.func44, rfl, rfl⟩ : Inl Try.prog 44 _ _ _) trivial trivial trivial trivial trivial trivial trivial trivial trivial
    have hE := end_mth (enF b).2.1 (enF b).2.2
    rw [ended_eq] at hE
    have hN := rnum_range (least := 0) (most := 16) (enE1 b).2 (by omega) (by omega)
    obtain ⟨n0, hn0⟩ := Int.eq_ofNat_of_zero_le hN.1
    change (enE2 b).1 = (n0 : Int) at hn0
    have hn16 : n0 ≤ 16 := by have := hN.2; change (enE2 b).1 ≤ 16 at this; omega
    have hL : enE3 b = rwraps n0 (enE2 b).2 := by unfold enE3; rw [hn0]; rfl
    rw [hn0]
    clear h1 h2 h3 g1 g2 hN
    refine AWP_adoptO 5 8 2 rfl rfl rfl rfl ?_
    refine AWP_loopW [7, 8, 56, 57, 58, 59, 60, 61, 62, 63, 64, 65, 66, 67, 68, 69, 70, 71, 72, 73, 74, 75, 76] (N := Nat × Int × List UInt8 × Bool × List Wp × Nat × List AV × Int × List AV) (fun ⟨m, mi, l, bad, ws, n, cs, nx, js⟩ => [.int .i64 mi, js.getD 0 .und, js.getD 1 .und, js.getD 2 .und, js.getD 3 .und, js.getD 4 .und, js.getD 5 .und, js.getD 6 .und, js.getD 7 .und, js.getD 8 .und, js.getD 9 .und, js.getD 10 .und, js.getD 11 .und, js.getD 12 .und, js.getD 13 .und, js.getD 14 .und, js.getD 15 .und, js.getD 16 .und, js.getD 17 .und, js.getD 18 .und, js.getD 19 .und, js.getD 20 .und, js.getD 21 .und]) (fun ⟨m, mi, l, bad, ws, n, cs, nx, js⟩ => ⟨[(5, [.int .i64 (enS1 b).1, .int .i64 (enS2 b).1, .int .i64 (enS3 b).1, .nils, .nils, .int .i64 0, .int .i64 0, .int .i64 (enE1 b).1, .sl (.tok 6 n 2) cs n]), (4, [.ptr 3 0]), (3, rdC l bad), (1, [.int .i64 0, .int .i64 0, .int .i64 0, .nils, .nils, .int .i64 0, .int .i64 0, .int .i64 0, .nils]), (0, b.map bvA ++ anys j)], [(6, n)], nx⟩) (fun ⟨m, mi, l, bad, ws, n, cs, nx, js⟩ => enE3 b = (ws ++ (rwraps m (l, bad)).1, (rwraps m (l, bad)).2) ∧ cs = wpCs ws ∧ n = ws.length ∧ n + m ≤ 16 ∧ mi = (m : Int) ∧ 7 ≤ nx) (fun ⟨m, mi, l, bad, ws, n, cs, nx, js⟩ => m) ⟨n0, n0, (enE2 b).2.1, (enE2 b).2.2, [], 0, [], 7, [_, _, _, _, _, _, _, _, _, _, _, _, _, _, _, _, _, _, _, _, _, _]⟩ rfl ?hs0 ?hi0 ?_
    rotate_left 2
    rintro ⟨m, mi, l, bad, ws, n, cs, nx, js⟩ sl_ hs hi
    simp only [setsF, setF, Option.some.injEq] at hs
    subst hs
    case hs0 => exact ASub.refl _
    case hi0 => exact ⟨hL, rfl, rfl, by omega, rfl, by omega⟩
    obtain ⟨hl, hcs, hn, hle, hmi, hnx⟩ := hi
    have hBad := bad_mth l bad
    by_cases hgo : bad = false ∧ 0 < m
    · obtain ⟨rfl, hm0⟩ := hgo
      obtain ⟨m, rfl⟩ : ∃ j, m = j + 1 := ⟨m - 1, by omega⟩
      have hW := num_mth l false 1 16
      generalize ht : rnum 1 16 (l, false) = q at hW
      obtain ⟨v, l1, b1⟩ := q
      dsimp only at hW
      have hT := text_mth l1 b1 48 48
      generalize ht2 : rtext 48 48 (l1, b1) = q2 at hT
      obtain ⟨t, l2, b2⟩ := q2
      dsimp only at hT
      have hl2 : enE3 b = ((ws ++ [⟨v, t⟩]) ++ (rwraps m (l2, b2)).1, (rwraps m (l2, b2)).2) := by
        rw [hl]
        conv => lhs; unfold rwraps
        rw [if_neg (by simp), ht]
        dsimp only
        rw [ht2]
        simp
      refine Run ?_ trivial trivial (⟨Try.func44, rfl, rfl⟩ : Inl Try.prog 44 _ _ _) trivial trivial trivial trivial trivial trivial trivial trivial trivial
      refine ALoopW_normal ⟨m, _, l2, b2, ws ++ [⟨v, t⟩], n + 1, cs ++ [.int .i64 v, bsA t], nx + 1, [_, _, _, _, _, _, _, _, _, _, _, _, _, _, _, _, _, _, _, _, _, _]⟩ rfl ?hs1 ?hi1 ?hm1
      case hs1 => exact (ASub.refl _).drop (by simp only [alook]; repeat (first | rw [if_neg (by omega)]))
      case hi1 => exact ⟨hl2, by rw [hcs]; simp [wpCs, wpC], by rw [List.length_append, hn]; rfl, by omega, by omega, by omega⟩
      case hm1 => simp only; omega
    · have hz : rwraps m (l, bad) = ([], (l, bad)) := by
        cases m with
        | zero => rfl
        | succ m => cases bad with
          | true => unfold rwraps; rw [if_pos rfl]
          | false => exact absurd ⟨rfl, by omega⟩ hgo
      rw [hz, List.append_nil] at hl
      dsimp only at hl
      have hz' : m = 0 ∨ bad = true := by
        cases bad with
        | true => exact .inr rfl
        | false => exact .inl (Nat.eq_zero_of_not_pos fun h => hgo ⟨rfl, h⟩)
      have hR : AVal Try.prog 19 [.agg [.int .i64 (enS1 b).1, .int .i64 (enS2 b).1, .int .i64 (enS3 b).1, .sl .none [] 0, .sl .none [] 0, .int .i64 0, .int .i64 0, .int .i64 (enE1 b).1, .sl .none (wpCs ws) ws.length]] (.bool (decide (EnOk (enF b).1))) := by
        have := enright_val (enF b).1 (enF_mid b)
        rw [hF, hl] at this ⊢
        exact this
      subst hcs hn
      rcases hz' with rfl | rfl
      · by_cases hend : (enF b).2.2 = false ∧ (enF b).2.1 = []
        · rw [decide_eq_true hend] at hE
          by_cases hok : EnOk (enF b).1
          · rw [if_pos ⟨hend.1, hend.2, hok⟩]
            rw [decide_eq_true hok] at hR
            rw [hF, hl] at hE ⊢
            dsimp only at hE ⊢
            refine Run ?_ trivial trivial trivial trivial trivial trivial trivial trivial trivial @wpCs_wk trivial trivial
            exact ⟨by (simp only [aone, AV.wk, AV.wkL, AV.wkL_bvA, wpCs_wk]; rfl), (by first | decide | omega | (simp only; omega)), rfl⟩
          · rw [if_neg (fun h => hok h.2.2)]
            rw [decide_eq_false hok] at hR
            rw [hF, hl] at hE
            dsimp only at hE
            refine Run ?_ trivial trivial trivial trivial trivial trivial trivial trivial trivial @wpCs_wk trivial trivial
            exact ⟨by simp [aone, AV.wk, AV.wkL, zeroE, wpCs], (by first | decide | omega | (simp only; omega)), rfl⟩
        · rw [if_neg (fun h => hend ⟨h.1, h.2.1⟩)]
          rw [decide_eq_false hend] at hE
          rw [hF, hl] at hE
          dsimp only at hE
          refine Run ?_ trivial trivial trivial trivial trivial trivial trivial trivial trivial trivial trivial trivial
          exact ⟨by simp [aone, AV.wk, AV.wkL, zeroE, wpCs], (by first | decide | omega | (simp only; omega)), rfl⟩
      · by_cases hm0 : mi > 0
        · by_cases hend : (enF b).2.2 = false ∧ (enF b).2.1 = []
          · rw [decide_eq_true hend] at hE
            by_cases hok : EnOk (enF b).1
            · rw [if_pos ⟨hend.1, hend.2, hok⟩]
              rw [decide_eq_true hok] at hR
              rw [hF, hl] at hE ⊢
              dsimp only at hE ⊢
              refine Run ?_ trivial trivial trivial trivial trivial trivial trivial trivial trivial @wpCs_wk trivial trivial
              exact ⟨by (simp only [aone, AV.wk, AV.wkL, AV.wkL_bvA, wpCs_wk]; rfl), (by first | decide | omega | (simp only; omega)), rfl⟩
            · rw [if_neg (fun h => hok h.2.2)]
              rw [decide_eq_false hok] at hR
              rw [hF, hl] at hE
              dsimp only at hE
              refine Run ?_ trivial trivial trivial trivial trivial trivial trivial trivial trivial @wpCs_wk trivial trivial
              exact ⟨by simp [aone, AV.wk, AV.wkL, zeroE, wpCs], (by first | decide | omega | (simp only; omega)), rfl⟩
          · rw [if_neg (fun h => hend ⟨h.1, h.2.1⟩)]
            rw [decide_eq_false hend] at hE
            rw [hF, hl] at hE
            dsimp only at hE
            refine Run ?_ trivial trivial trivial trivial trivial trivial trivial trivial trivial trivial trivial trivial
            exact ⟨by simp [aone, AV.wk, AV.wkL, zeroE, wpCs], (by first | decide | omega | (simp only; omega)), rfl⟩
        · by_cases hend : (enF b).2.2 = false ∧ (enF b).2.1 = []
          · rw [decide_eq_true hend] at hE
            by_cases hok : EnOk (enF b).1
            · rw [if_pos ⟨hend.1, hend.2, hok⟩]
              rw [decide_eq_true hok] at hR
              rw [hF, hl] at hE ⊢
              dsimp only at hE ⊢
              refine Run ?_ trivial trivial trivial trivial trivial trivial trivial trivial trivial @wpCs_wk trivial trivial
              exact ⟨by (simp only [aone, AV.wk, AV.wkL, AV.wkL_bvA, wpCs_wk]; rfl), (by first | decide | omega | (simp only; omega)), rfl⟩
            · rw [if_neg (fun h => hok h.2.2)]
              rw [decide_eq_false hok] at hR
              rw [hF, hl] at hE
              dsimp only at hE
              refine Run ?_ trivial trivial trivial trivial trivial trivial trivial trivial trivial @wpCs_wk trivial trivial
              exact ⟨by simp [aone, AV.wk, AV.wkL, zeroE, wpCs], (by first | decide | omega | (simp only; omega)), rfl⟩
          · rw [if_neg (fun h => hend ⟨h.1, h.2.1⟩)]
            rw [decide_eq_false hend] at hE
            rw [hF, hl] at hE
            dsimp only at hE
            refine Run ?_ trivial trivial trivial trivial trivial trivial trivial trivial trivial trivial trivial trivial
            exact ⟨by simp [aone, AV.wk, AV.wkL, zeroE, wpCs], (by first | decide | omega | (simp only; omega)), rfl⟩
end Go.Proofs.Ytaffpkogcpkmjaa
