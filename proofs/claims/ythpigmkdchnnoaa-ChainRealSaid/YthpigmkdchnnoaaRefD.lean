/- The contract of locketref01.roots. -/
import Derived.Test.YthpigmkdchnnoaaRefC
namespace Go.Proofs.Ythpigmkdchnnoaa
open Go.RowKit
set_option linter.unusedVariables false
set_option linter.unusedSimpArgs false

def primeN (p : Nat) : Nat → Nat → Bool → Bool
  | 0, _, f => f
  | k + 1, d, f => if wrap64 ((d : Int) * (d : Int)) ≤ (p : Int) then primeN p k (d + 1) (f && ((p : Int) % (d : Int) != 0)) else f
def isP (p : Nat) : Bool := primeN p 18 2 true
def outAt (cube : Bool) : Nat → List Int
  | 0 => []
  | i + 1 => if isP (i + 2) then outAt cube i ++ [rootV (i + 2) cube] else outAt cube i
def cnt : Nat → Nat
  | 0 => 0
  | i + 1 => if isP (i + 2) then cnt i + 1 else cnt i
theorem outAt_length (cube : Bool) : ∀ i, (outAt cube i).length = cnt i
  | 0 => rfl
  | i + 1 => by
    rw [outAt, cnt]
    split
    · rw [List.length_append, outAt_length cube i]; rfl
    · exact outAt_length cube i
theorem cnt_64 : (∀ i : Fin 310, cnt i.1 < 64) ∧ cnt 310 = 64 := by decide +kernel
theorem cnt_8 : (∀ i : Fin 18, cnt i.1 < 8) ∧ cnt 18 = 8 := by decide +kernel
theorem out_8 : outAt false 18 = h0.map Int.ofNat := by decide +kernel
def primesTo : Nat → List Nat
  | 0 => []
  | i + 1 => if isP (i + 2) then primesTo i ++ [i + 2] else primesTo i
theorem outAt_map (cube : Bool) : ∀ i, outAt cube i = (primesTo i).map (fun p => rootV p cube)
  | 0 => rfl
  | i + 1 => by
    rw [outAt, primesTo]
    split
    · rw [List.map_append, outAt_map cube i]; rfl
    · exact outAt_map cube i
theorem zvs_ofNat (l : List Nat) : zvs (l.map Int.ofNat) = ivs l := by simp [zvs, ivs, zv, iv]
theorem zvs_append (a b : List Int) : zvs (a ++ b) = zvs a ++ zvs b := by simp [zvs]
theorem zvs_one (l : List Int) : ∀ u ∈ zvs l, u.oneCell' = true := by
  intro u hu
  obtain ⟨_, _, rfl⟩ := List.mem_map.1 hu
  rfl
theorem seg_lit_z (w : World) (x : Int) (base : Nat) (hb : base ≤ w.heap.size) : Rd (w.alloc (.cells #[.int .i64 x] 3)) 1 (some ⟨w.heap.size, 0, none⟩) 1 1 (zvs [x]) := rd_lit w #[.int .i64 x] 3 1 1 rfl (by simp [maxLen])
theorem own_of {w : World} {base size : Nat} {A : Option Addr} {n c : Nat} {xs : List Value} (h : Seg w base size A n c xs) : ∀ r, A.map (·.block) = some r → base ≤ r := h.own_row

set_option maxRecDepth 100000 in
set_option maxHeartbeats 2000000 in
theorem roots_64 (w : World) :
    Calls Try.prog 29 #[.int .i64 64, .bool true] w fun e w' => ∃ A c, e = .returned (.slice A 64 c) ∧ Seg w' w.heap.size 1 A 64 c (zvs (outAt true 310)) ∧ Below w.heap.size w w' := by
  go_enter Try.func29, Try.ntmps29
  go_wp2_with fail
  go_loopw [5, 6] (fun s5 s6 wr => ∃ (i : Nat) (A : Option Addr) (c : Nat), i ≤ 310 ∧ s5 = .slice A (cnt i) c ∧ s6 = .int .i64 ((i + 2 : Nat) : Int) ∧ Seg wr w.heap.size 1 A (cnt i) c (zvs (outAt true i)) ∧ Below w.heap.size w wr) (fun _ s6 _ => 400 - (intOf s6).toNat)
  case atStart => exact ⟨0, none, 0, by omega, rfl, rfl, Seg.nil _ _ _, Below.refl _ _⟩
  case round =>
    obtain ⟨i, A, c, hi, rfl, rfl, hs, hb⟩ := hrel
    have HS := Lib.hid hs
    have HB := Lib.hid hb
    clear hs hb
    by_cases hlt : i < 310
    · have hcl : (cnt i : Int) < 64 := by have := cnt_64.1 ⟨i, hlt⟩; simp at this; omega
      have hcl2 : cnt i < 64 := by have := cnt_64.1 ⟨i, hlt⟩; simp at this; omega
      obtain ⟨q, HQ⟩ : ∃ q, Hid (q = cnt i) := ⟨_, Lib.hid rfl⟩
      rw [← HQ.out] at HS hcl hcl2 ⊢
      obtain ⟨p, HP⟩ : ∃ p, Hid (p = i + 2) := ⟨_, Lib.hid rfl⟩
      rw [← HP.out]
      have hp : p < 400 := by have := HP.out; omega
      obtain ⟨F, HF⟩ : ∃ F, Hid (primeN p 18 2 true = F) := ⟨_, Lib.hid rfl⟩
      go_wp2_with fail
      go_loopw [7, 8] (fun s7 s8 wx => ∃ (d : Nat) (f : Bool), 2 ≤ d ∧ d ≤ 20 ∧ s7 = .bool f ∧ s8 = .int .i64 (d : Int) ∧ Hid (primeN p (20 - d) d f = F) ∧ wx = wr) (fun _ s8 _ => 21 - (intOf s8).toNat)
      case atStart => exact ⟨2, true, by omega, by omega, rfl, rfl, HF, rfl⟩
      case round =>
        obtain ⟨d, f, hd2, hd, rfl, rfl, HPN, rfl⟩ := hrel
        have hd0 : ¬ ((d : Int) = 0) := by omega
        by_cases hok : wrap64 ((d : Int) * (d : Int)) ≤ (p : Int)
        · have hd20 : d < 20 := by
            rcases Nat.lt_or_eq_of_le hd with h | rfl
            · exact h
            · have : wrap64 (((20 : Nat) : Int) * ((20 : Nat) : Int)) = 400 := by decide +kernel
              rw [this] at hok
              omega
          have HPS : Hid (primeN p (20 - (d + 1)) (d + 1) (f && ((p : Int) % (d : Int) != 0)) = F) := by
            have h := HPN.out
            rw [show 20 - d = (20 - (d + 1)) + 1 by omega, primeN, if_pos hok] at h
            exact Lib.hid h
          cases f with
          | true =>
            by_cases hr : (p : Int) % (d : Int) = 0
            · have hrb : ((p : Int) % (d : Int) != 0) = false := by rw [bne_eq_false_iff_eq]; exact hr
              rw [hrb] at HPS
              have hrt : Int.tmod (p : Int) (d : Int) = 0 := by rw [Int.tmod_eq_emod_of_nonneg (by omega)]; exact hr
              go_wp2_with fail
              case roundEnd => exact ⟨⟨d + 1, false, by omega, by omega, rfl, by push_cast; rfl, HPS, trivial⟩, by simp only [intOf]; omega⟩
            · have hrb : ((p : Int) % (d : Int) != 0) = true := by rw [bne_iff_ne]; exact hr
              rw [hrb] at HPS
              have hrt : ¬ Int.tmod (p : Int) (d : Int) = 0 := by rw [Int.tmod_eq_emod_of_nonneg (by omega)]; exact hr
              have hrtb : (Int.tmod (p : Int) (d : Int) != 0) = true := by rw [bne_iff_ne]; exact hrt
              go_wp2_with fail
              case roundEnd => exact ⟨⟨d + 1, true, by omega, by omega, rfl, by push_cast; rfl, HPS, trivial⟩, by simp only [intOf]; omega⟩
          | false =>
            rw [Bool.false_and] at HPS
            go_wp2_with fail
            case roundEnd => exact ⟨⟨d + 1, false, by omega, by omega, rfl, by push_cast; rfl, HPS, trivial⟩, by simp only [intOf]; omega⟩
        · have hok' : (p : Int) < wrap64 ((d : Int) * (d : Int)) := Int.not_le.1 hok
          have hokd : decide (wrap64 ((d : Int) * (d : Int)) ≤ (p : Int)) = false := by rw [decide_eq_false_iff_not]; exact hok
          have HFE : Hid (f = F) := by
            have h := HPN.out
            cases hf : 20 - d with
            | zero => rw [hf, primeN] at h; exact Lib.hid h
            | succ k => rw [hf, primeN, if_neg hok] at h; exact Lib.hid h
          have HNX : Hid (outAt true (i + 1) = if F = true then outAt true i ++ [rootV p true] else outAt true i) := by rw [outAt, isP, ← HP.out, HF.out]; exact Lib.hid rfl
          have HCN : Hid (cnt (i + 1) = if F = true then q + 1 else q) := by rw [cnt, isP, ← HP.out, HF.out, HQ.out]; exact Lib.hid rfl
          rw [HFE.out]
          clear HPN HFE
          cases F with
          | true =>
            rw [if_pos rfl] at HNX HCN
            have HRT := Lib.hid (root_true p hp wr)
            obtain ⟨x, HX⟩ : ∃ x, Hid (x = rootV p true) := ⟨_, Lib.hid rfl⟩
            rw [← HX.out] at HRT HNX
            go_wp2_with (first | (refine HRT.out.mono ?_; rintro e wm ⟨rfl, hb1⟩; have HS1 := Lib.hid ((HS.out.below hb1).below ((Below.refl _ _).alloc (Nat.le_refl _) (.cells #[.int .i64 x] 3))); have HB1 := Lib.hid (HB.out.trans (hb1.mono HB.out.size)); clear hb1) | (at_builtin; refine wpList_append_seg rfl _ _ _ _ rfl ei_int rfl HS1.out rfl ((seg_lit_z wm x wm.heap.size (Nat.le_refl _)).src Try.underlying73 (zvs_one _)) (by simp only [maxLen]; omega) (by omega) (by have := HB1.out.size; simp; omega) ?_; intro A' c' wn hs hg _; have HB2 := Lib.hid ((HB1.out.alloc HB1.out.size (.cells #[.int .i64 x] 3)).grown hg (by have := HB1.out.size; simp; omega) HS1.out.own_row); have HS2 := Lib.hid hs; clear hs hg))
            case roundEnd =>
              have hp2 := HP.out
              refine ⟨⟨i + 1, A', c', by omega, by rw [HCN.out], congrArg (Value.int .i64) (by omega), ?_, HB2.out⟩, by simp only [intOf]; omega⟩
              have h := HS2.out
              rw [← zvs_append, ← HNX.out] at h
              rw [HCN.out]
              exact h
          | false =>
            rw [if_neg (by decide)] at HNX HCN
            go_wp2_with fail
            case roundEnd =>
              have hp2 := HP.out
              refine ⟨⟨i + 1, A, c, by omega, by rw [HCN.out], congrArg (Value.int .i64) (by omega), ?_, HB.out⟩, by simp only [intOf]; omega⟩
              rw [HCN.out, HNX.out]
              exact HS.out
    · obtain rfl : i = 310 := by omega
      have hc : cnt 310 = 64 := cnt_64.2
      rw [hc] at HS ⊢
      clear hc
      go_wp2_with fail
      go_ret
      exact ⟨A, c, rfl, HS.out, HB.out⟩

set_option maxRecDepth 100000 in
set_option maxHeartbeats 2000000 in
theorem roots_8 (w : World) :
    Calls Try.prog 29 #[.int .i64 8, .bool false] w fun e w' => ∃ A c, e = .returned (.slice A 8 c) ∧ Seg w' w.heap.size 1 A 8 c (zvs (outAt false 18)) ∧ Below w.heap.size w w' := by
  go_enter Try.func29, Try.ntmps29
  go_wp2_with fail
  go_loopw [5, 6] (fun s5 s6 wr => ∃ (i : Nat) (A : Option Addr) (c : Nat), i ≤ 18 ∧ s5 = .slice A (cnt i) c ∧ s6 = .int .i64 ((i + 2 : Nat) : Int) ∧ Seg wr w.heap.size 1 A (cnt i) c (zvs (outAt false i)) ∧ Below w.heap.size w wr) (fun _ s6 _ => 400 - (intOf s6).toNat)
  case atStart => exact ⟨0, none, 0, by omega, rfl, rfl, Seg.nil _ _ _, Below.refl _ _⟩
  case round =>
    obtain ⟨i, A, c, hi, rfl, rfl, hs, hb⟩ := hrel
    have HS := Lib.hid hs
    have HB := Lib.hid hb
    clear hs hb
    by_cases hlt : i < 18
    · have hcl : (cnt i : Int) < 8 := by have := cnt_8.1 ⟨i, hlt⟩; simp at this; omega
      have hcl2 : cnt i < 64 := by have := cnt_8.1 ⟨i, hlt⟩; simp at this; omega
      obtain ⟨q, HQ⟩ : ∃ q, Hid (q = cnt i) := ⟨_, Lib.hid rfl⟩
      rw [← HQ.out] at HS hcl hcl2 ⊢
      obtain ⟨p, HP⟩ : ∃ p, Hid (p = i + 2) := ⟨_, Lib.hid rfl⟩
      rw [← HP.out]
      have hp : p < 400 := by have := HP.out; omega
      obtain ⟨F, HF⟩ : ∃ F, Hid (primeN p 18 2 true = F) := ⟨_, Lib.hid rfl⟩
      go_wp2_with fail
      go_loopw [7, 8] (fun s7 s8 wx => ∃ (d : Nat) (f : Bool), 2 ≤ d ∧ d ≤ 20 ∧ s7 = .bool f ∧ s8 = .int .i64 (d : Int) ∧ Hid (primeN p (20 - d) d f = F) ∧ wx = wr) (fun _ s8 _ => 21 - (intOf s8).toNat)
      case atStart => exact ⟨2, true, by omega, by omega, rfl, rfl, HF, rfl⟩
      case round =>
        obtain ⟨d, f, hd2, hd, rfl, rfl, HPN, rfl⟩ := hrel
        have hd0 : ¬ ((d : Int) = 0) := by omega
        by_cases hok : wrap64 ((d : Int) * (d : Int)) ≤ (p : Int)
        · have hd20 : d < 20 := by
            rcases Nat.lt_or_eq_of_le hd with h | rfl
            · exact h
            · have : wrap64 (((20 : Nat) : Int) * ((20 : Nat) : Int)) = 400 := by decide +kernel
              rw [this] at hok
              omega
          have HPS : Hid (primeN p (20 - (d + 1)) (d + 1) (f && ((p : Int) % (d : Int) != 0)) = F) := by
            have h := HPN.out
            rw [show 20 - d = (20 - (d + 1)) + 1 by omega, primeN, if_pos hok] at h
            exact Lib.hid h
          cases f with
          | true =>
            by_cases hr : (p : Int) % (d : Int) = 0
            · have hrb : ((p : Int) % (d : Int) != 0) = false := by rw [bne_eq_false_iff_eq]; exact hr
              rw [hrb] at HPS
              have hrt : Int.tmod (p : Int) (d : Int) = 0 := by rw [Int.tmod_eq_emod_of_nonneg (by omega)]; exact hr
              go_wp2_with fail
              case roundEnd => exact ⟨⟨d + 1, false, by omega, by omega, rfl, by push_cast; rfl, HPS, trivial⟩, by simp only [intOf]; omega⟩
            · have hrb : ((p : Int) % (d : Int) != 0) = true := by rw [bne_iff_ne]; exact hr
              rw [hrb] at HPS
              have hrt : ¬ Int.tmod (p : Int) (d : Int) = 0 := by rw [Int.tmod_eq_emod_of_nonneg (by omega)]; exact hr
              have hrtb : (Int.tmod (p : Int) (d : Int) != 0) = true := by rw [bne_iff_ne]; exact hrt
              go_wp2_with fail
              case roundEnd => exact ⟨⟨d + 1, true, by omega, by omega, rfl, by push_cast; rfl, HPS, trivial⟩, by simp only [intOf]; omega⟩
          | false =>
            rw [Bool.false_and] at HPS
            go_wp2_with fail
            case roundEnd => exact ⟨⟨d + 1, false, by omega, by omega, rfl, by push_cast; rfl, HPS, trivial⟩, by simp only [intOf]; omega⟩
        · have hok' : (p : Int) < wrap64 ((d : Int) * (d : Int)) := Int.not_le.1 hok
          have hokd : decide (wrap64 ((d : Int) * (d : Int)) ≤ (p : Int)) = false := by rw [decide_eq_false_iff_not]; exact hok
          have HFE : Hid (f = F) := by
            have h := HPN.out
            cases hf : 20 - d with
            | zero => rw [hf, primeN] at h; exact Lib.hid h
            | succ k => rw [hf, primeN, if_neg hok] at h; exact Lib.hid h
          have HNX : Hid (outAt false (i + 1) = if F = true then outAt false i ++ [rootV p false] else outAt false i) := by rw [outAt, isP, ← HP.out, HF.out]; exact Lib.hid rfl
          have HCN : Hid (cnt (i + 1) = if F = true then q + 1 else q) := by rw [cnt, isP, ← HP.out, HF.out, HQ.out]; exact Lib.hid rfl
          rw [HFE.out]
          clear HPN HFE
          cases F with
          | true =>
            rw [if_pos rfl] at HNX HCN
            have HRT := Lib.hid (root_false p hp wr)
            obtain ⟨x, HX⟩ : ∃ x, Hid (x = rootV p false) := ⟨_, Lib.hid rfl⟩
            rw [← HX.out] at HRT HNX
            go_wp2_with (first | (refine HRT.out.mono ?_; rintro e wm ⟨rfl, hb1⟩; have HS1 := Lib.hid ((HS.out.below hb1).below ((Below.refl _ _).alloc (Nat.le_refl _) (.cells #[.int .i64 x] 3))); have HB1 := Lib.hid (HB.out.trans (hb1.mono HB.out.size)); clear hb1) | (at_builtin; refine wpList_append_seg rfl _ _ _ _ rfl ei_int rfl HS1.out rfl ((seg_lit_z wm x wm.heap.size (Nat.le_refl _)).src Try.underlying73 (zvs_one _)) (by simp only [maxLen]; omega) (by omega) (by have := HB1.out.size; simp; omega) ?_; intro A' c' wn hs hg _; have HB2 := Lib.hid ((HB1.out.alloc HB1.out.size (.cells #[.int .i64 x] 3)).grown hg (by have := HB1.out.size; simp; omega) HS1.out.own_row); have HS2 := Lib.hid hs; clear hs hg))
            case roundEnd =>
              have hp2 := HP.out
              refine ⟨⟨i + 1, A', c', by omega, by rw [HCN.out], congrArg (Value.int .i64) (by omega), ?_, HB2.out⟩, by simp only [intOf]; omega⟩
              have h := HS2.out
              rw [← zvs_append, ← HNX.out] at h
              rw [HCN.out]
              exact h
          | false =>
            rw [if_neg (by decide)] at HNX HCN
            go_wp2_with fail
            case roundEnd =>
              have hp2 := HP.out
              refine ⟨⟨i + 1, A, c, by omega, by rw [HCN.out], congrArg (Value.int .i64) (by omega), ?_, HB.out⟩, by simp only [intOf]; omega⟩
              rw [HCN.out, HNX.out]
              exact HS.out
    · obtain rfl : i = 18 := by omega
      have hc : cnt 18 = 8 := cnt_8.2
      rw [hc] at HS ⊢
      clear hc
      go_wp2_with fail
      go_ret
      exact ⟨A, c, rfl, HS.out, HB.out⟩
end Go.Proofs.Ythpigmkdchnnoaa
