/- The abstract machine: a call that sees a part of the store. -/
import Derived.Test.YtnjkklkjlloedaaAm15
namespace Go.Proofs.Ytnjkklkjlloedaa
open Go.RowKit
set_option linter.unusedVariables false
set_option linter.unusedSimpArgs false
variable {base : Nat} {Fi : Int → Prop} {M : MM} {w w' : World}
variable {P : Program} {σ : ASt}

def inK (k : Int) (i : Int) : Bool := decide (0 ≤ i) && decide (i < k)
def nonneg (i : Int) : Bool := decide (0 ≤ i)
theorem inK_iff {k i : Int} : inK k i = true ↔ 0 ≤ i ∧ i < k := by simp [inK]
theorem nonneg_iff {i : Int} : nonneg i = true ↔ 0 ≤ i := by simp [nonneg]
/-- The caller's numbers of what the call names by the numbers from 0 on. -/
def rho (k : Int) (f : Int → Int) (n : Int) (i : Int) : Int := if i < k then f i else i - k + n
structure Moved (k top : Int) (f : Int → Int) (σ σ1 σ2 : ASt) : Prop where
  objs : ∀ j c, alook σ2.objs j = some c → (∃ i c1, 0 ≤ i ∧ i < top ∧ rho k f σ.next i = j ∧ alook σ1.objs i = some c1 ∧ AV.idsL (inK top) c1 = true ∧ c = AV.renL (rho k f σ.next) c1) ∨ (alook σ.objs j = some c ∧ ∀ i, 0 ≤ i → i < k → f i ≠ j)
  toks : ∀ j t, alook σ2.toks j = some t → (∃ i, 0 ≤ i ∧ i < top ∧ rho k f σ.next i = j ∧ alook σ1.toks i = some t) ∨ (alook σ.toks j = some t ∧ ∀ i, 0 ≤ i → i < k → f i ≠ j)
  next : top - k + σ.next ≤ σ2.next

open Classical in
/-- The caller's map seen from the call. -/
noncomputable def MM.inn (M : MM) (k : Int) (f : Int → Int) (n : Int) : MM :=
  ⟨fun i => if inK k i = true then M.ob (f i) else if i < 0 ∧ ¬ (∃ i', 0 ≤ i' ∧ i' < k ∧ f i' = i + n) then M.ob (i + n) else Option.none,
   fun i => if inK k i = true then M.tk (f i) else if i < 0 ∧ ¬ (∃ i', 0 ≤ i' ∧ i' < k ∧ f i' = i + n) then M.tk (i + n) else Option.none,
   fun i => if inK k i = true then M.fz (f i) else if i < 0 ∧ ¬ (∃ i', 0 ≤ i' ∧ i' < k ∧ f i' = i + n) then M.fz (i + n) else False⟩
open Classical in
/-- And the call's seen from the caller, behind it. -/
noncomputable def MM.out (M M1 : MM) (k : Int) (f : Int → Int) (n top : Int) : MM :=
  ⟨fun j => if h : ∃ i, 0 ≤ i ∧ i < k ∧ f i = j then M1.ob (Classical.choose h) else if j < n then M.ob j else if j - n + k < top then M1.ob (j - n + k) else Option.none,
   fun j => if h : ∃ i, 0 ≤ i ∧ i < k ∧ f i = j then M1.tk (Classical.choose h) else if j < n then M.tk j else if j - n + k < top then M1.tk (j - n + k) else Option.none,
   fun j => if h : ∃ i, 0 ≤ i ∧ i < k ∧ f i = j then M1.fz (Classical.choose h) else if j < n then M.fz j else if j - n + k < top then M1.fz (j - n + k) else False⟩

section
variable {M1 : MM} {k n top : Int} {f : Int → Int}
theorem inn_in {i : Int} (h : 0 ≤ i ∧ i < k) : (M.inn k f n).ob i = M.ob (f i) ∧ (M.inn k f n).tk i = M.tk (f i) ∧ (M.inn k f n).fz i = M.fz (f i) := by
  have := inK_iff.2 h
  simp [MM.inn, this]
theorem inn_far {j : Int} (hj : j < n) (hv : ¬ ∃ i, 0 ≤ i ∧ i < k ∧ f i = j) : (M.inn k f n).ob (j - n) = M.ob j ∧ (M.inn k f n).tk (j - n) = M.tk j ∧ (M.inn k f n).fz (j - n) = M.fz j := by
  have h0 : ¬ inK k (j - n) = true := by rw [inK_iff]; omega
  have h1 : j - n < 0 ∧ ¬ (∃ i', 0 ≤ i' ∧ i' < k ∧ f i' = (j - n) + n) := ⟨by omega, by rw [Int.sub_add_cancel]; exact hv⟩
  simp only [MM.inn, if_neg h0, if_pos h1, Int.sub_add_cancel, and_self]
theorem inn_cases (i : Int) : (0 ≤ i ∧ i < k) ∨ (∃ j, i = j - n ∧ j < n ∧ ¬ ∃ i, 0 ≤ i ∧ i < k ∧ f i = j) ∨ ((M.inn k f n).ob i = Option.none ∧ (M.inn k f n).tk i = Option.none ∧ ¬ (M.inn k f n).fz i) := by
  by_cases h : inK k i = true
  · exact .inl (inK_iff.1 h)
  · by_cases h2 : i < 0 ∧ ¬ (∃ i', 0 ≤ i' ∧ i' < k ∧ f i' = i + n)
    · exact .inr (.inl ⟨i + n, by omega, by omega, h2.2⟩)
    · refine .inr (.inr ?_)
      simp only [MM.inn, if_neg h, if_neg h2, not_false_eq_true, and_self]
theorem out_in (hinj : ∀ i i', 0 ≤ i → i < k → 0 ≤ i' → i' < k → f i = f i' → i = i') {i : Int} (h : 0 ≤ i ∧ i < k) : (M.out M1 k f n top).ob (f i) = M1.ob i ∧ (M.out M1 k f n top).tk (f i) = M1.tk i ∧ (M.out M1 k f n top).fz (f i) = M1.fz i := by
  have hx : ∃ i', 0 ≤ i' ∧ i' < k ∧ f i' = f i := ⟨i, h.1, h.2, rfl⟩
  have hc := Classical.choose_spec hx
  have he := hinj _ _ hc.1 hc.2.1 h.1 h.2 hc.2.2
  simp only [MM.out, dif_pos hx]
  rw [he]
  exact ⟨rfl, rfl, rfl⟩
theorem out_far {j : Int} (hj : j < n) (hv : ¬ ∃ i, 0 ≤ i ∧ i < k ∧ f i = j) : (M.out M1 k f n top).ob j = M.ob j ∧ (M.out M1 k f n top).tk j = M.tk j ∧ (M.out M1 k f n top).fz j = M.fz j := by
  simp only [MM.out, dif_neg hv, if_pos hj, and_self]
theorem out_new (hf : ∀ i, 0 ≤ i → i < k → f i < n) {j : Int} (hj : n ≤ j) (ht : j - n + k < top) : (M.out M1 k f n top).ob j = M1.ob (j - n + k) ∧ (M.out M1 k f n top).tk j = M1.tk (j - n + k) ∧ (M.out M1 k f n top).fz j = M1.fz (j - n + k) := by
  have hv : ¬ ∃ i, 0 ≤ i ∧ i < k ∧ f i = j := by rintro ⟨i, h1, h2, rfl⟩; have := hf i h1 h2; omega
  simp only [MM.out, dif_neg hv, if_neg (show ¬ j < n by omega), if_pos ht, and_self]
theorem out_gone (hf : ∀ i, 0 ≤ i → i < k → f i < n) {j : Int} (hj : n ≤ j) (ht : ¬ j - n + k < top) : (M.out M1 k f n top).ob j = Option.none ∧ (M.out M1 k f n top).tk j = Option.none ∧ ¬ (M.out M1 k f n top).fz j := by
  have hv : ¬ ∃ i, 0 ≤ i ∧ i < k ∧ f i = j := by rintro ⟨i, h1, h2, rfl⟩; have := hf i h1 h2; omega
  simp only [MM.out, dif_neg hv, if_neg (show ¬ j < n by omega), if_neg ht, not_false_eq_true, and_self]
/-- A number that the call knows. -/
theorem out_rho (hf : ∀ i, 0 ≤ i → i < k → f i < n) (hinj : ∀ i i', 0 ≤ i → i < k → 0 ≤ i' → i' < k → f i = f i' → i = i') {i : Int} (h : 0 ≤ i) (hit : i < top) : (M.out M1 k f n top).ob (rho k f n i) = M1.ob i ∧ (M.out M1 k f n top).tk (rho k f n i) = M1.tk i ∧ (M.out M1 k f n top).fz (rho k f n i) = M1.fz i := by
  unfold rho
  by_cases hk : i < k
  · rw [if_pos hk]; exact out_in hinj ⟨h, hk⟩
  · rw [if_neg hk]
    have := out_new (M := M) (M1 := M1) (top := top) hf (show n ≤ i - k + n by omega) (by omega)
    rw [show i - k + n - n + k = i by omega] at this
    exact this
/-- Each of the caller's numbers is the call's rho of one, or far. -/
theorem out_cases (hkt : k ≤ top) (hk0 : 0 ≤ k) (j : Int) : (∃ i, 0 ≤ i ∧ i < top ∧ rho k f n i = j ∧ (i < k ∨ n ≤ j)) ∨ (j < n ∧ ¬ ∃ i, 0 ≤ i ∧ i < k ∧ f i = j) ∨ (n ≤ j ∧ ¬ j - n + k < top) := by
  by_cases hv : ∃ i, 0 ≤ i ∧ i < k ∧ f i = j
  · obtain ⟨i, h1, h2, h3⟩ := hv
    exact .inl ⟨i, h1, by omega, by unfold rho; rw [if_pos h2, h3], .inl h2⟩
  · by_cases hj : j < n
    · exact .inr (.inl ⟨hj, hv⟩)
    · by_cases h0 : j - n + k < top
      · exact .inl ⟨j - n + k, by omega, h0, by unfold rho; rw [if_neg (by omega)]; omega, .inr (by omega)⟩
      · exact .inr (.inr ⟨by omega, h0⟩)
end
/-! ### The call -/
theorem inn_val {n k : Int} {f : Int → Int} {i : Int} {b : Nat} (h : (M.inn k f n).ob i = some b) : ∃ j, M.ob j = some b ∧ (((0 ≤ i ∧ i < k) ∧ j = f i) ∨ (i = j - n ∧ j < n ∧ ¬ ∃ i, 0 ≤ i ∧ i < k ∧ f i = j)) := by
  rcases inn_cases (M := M) (k := k) (f := f) (n := n) i with hi | ⟨j, rfl, hj, hv⟩ | ⟨h1, _⟩
  · exact ⟨f i, by rw [← (inn_in hi).1]; exact h, .inl ⟨hi, rfl⟩⟩
  · exact ⟨j, by rw [← (inn_far hj hv).1]; exact h, .inr ⟨rfl, hj, hv⟩⟩
  · rw [h1] at h; cases h
theorem inn_valt {n k : Int} {f : Int → Int} {i : Int} {T : Tk} (h : (M.inn k f n).tk i = some T) : ∃ j, M.tk j = some T ∧ (((0 ≤ i ∧ i < k) ∧ j = f i) ∨ (i = j - n ∧ j < n ∧ ¬ ∃ i, 0 ≤ i ∧ i < k ∧ f i = j)) := by
  rcases inn_cases (M := M) (k := k) (f := f) (n := n) i with hi | ⟨j, rfl, hj, hv⟩ | ⟨_, h1, _⟩
  · exact ⟨f i, by rw [← (inn_in hi).2.1]; exact h, .inl ⟨hi, rfl⟩⟩
  · exact ⟨j, by rw [← (inn_far hj hv).2.1]; exact h, .inr ⟨rfl, hj, hv⟩⟩
  · rw [h1] at h; cases h
theorem inn_one {n k : Int} {f : Int → Int} (hinj : ∀ i i', 0 ≤ i → i < k → 0 ≤ i' → i' < k → f i = f i' → i = i') {i i' j : Int} (h : ((0 ≤ i ∧ i < k) ∧ j = f i) ∨ (i = j - n ∧ j < n ∧ ¬ ∃ i, 0 ≤ i ∧ i < k ∧ f i = j)) (h' : ((0 ≤ i' ∧ i' < k) ∧ j = f i') ∨ (i' = j - n ∧ j < n ∧ ¬ ∃ i, 0 ≤ i ∧ i < k ∧ f i = j)) : i = i' := by
  rcases h with ⟨h1, h2⟩ | ⟨h1, h2, h3⟩ <;> rcases h' with ⟨k1, k2⟩ | ⟨k1, k2, k3⟩
  · exact hinj _ _ h1.1 h1.2 k1.1 k1.2 (h2.symm.trans k2)
  · exact absurd ⟨i, h1.1, h1.2, h2.symm⟩ k3
  · exact absurd ⟨i', k1.1, k1.2, k2.symm⟩ h3
  · omega
theorem ACalls.move {g : FuncId} {args0 : List AV} {σ0 : ASt} {K0 K : AV → ASt → Prop} (h : ACalls P g args0 σ0 K0) (k : Int) (hk0 : 0 ≤ k) (hkn : σ0.next = k) (f : Int → Int) (hf : ∀ i, 0 ≤ i → i < k → f i < σ.next)
    (hinj : ∀ i i', 0 ≤ i → i < k → 0 ≤ i' → i' < k → f i = f i' → i = i')
    (ho : ∀ i c, alook σ0.objs i = some c → (0 ≤ i ∧ i < k) ∧ AV.idsL (inK k) c = true ∧ alook σ.objs (f i) = some (AV.renL (rho k f σ.next) c))
    (ht : ∀ i t, alook σ0.toks i = some t → (0 ≤ i ∧ i < k) ∧ alook σ.toks (f i) = some t)
    (ha : AV.idsL (inK k) args0 = true)
    (hK : ∀ rv0 σ1, K0 rv0 σ1 → ∃ top, rv0.ids (inK top) = true ∧ k ≤ top ∧ ∃ σ2, Moved k top f σ σ1 σ2 ∧ K (rv0.ren (rho k f σ.next)) σ2) : ACalls P g (AV.renL (rho k f σ.next) args0) σ K := by
  intro base Fi M w vs S hr
  generalize hn : σ.next = n at *
  have lt : ∀ id b, M.ob id = some b → id < n := fun id b hb => Int.lt_of_not_ge fun hle => by rw [(S.fresh id (by omega)).1] at hb; cases hb
  have ltk : ∀ id T, M.tk id = some T → id < n := fun id T hb => Int.lt_of_not_ge fun hle => by rw [(S.fresh id (by omega)).2.1] at hb; cases hb
  have hst0 : ∀ b j, stab M b j → stab (M.inn k f n) b j := by
    intro b j hs
    refine ⟨fun i hb => ?_, fun i T e ce h1 h2 => ?_⟩
    · obtain ⟨j', h1, h2⟩ := inn_val hb
      have h3 := hs.1 _ h1
      rcases h2 with ⟨h4, rfl⟩ | ⟨rfl, h4, h5⟩
      · rw [(inn_in h4).2.2]; exact h3
      · rw [(inn_far h4 h5).2.2]; exact h3
    · obtain ⟨j', h3, h4⟩ := inn_valt h1
      exact hs.2 _ _ _ _ h3 h2
  have V : Vnoc M (M.inn k f n) (rho k f n) (inK k) := by
    refine ⟨fun i b hp hb => ?_, fun i T hp hb => ?_, hst0⟩
    · have hi := inK_iff.1 hp
      rw [(inn_in hi).1]; unfold rho at hb; rwa [if_pos hi.2] at hb
    · have hi := inK_iff.1 hp
      rw [(inn_in hi).2.1]; unfold rho at hb; rwa [if_pos hi.2] at hb
  let Fi0 : Int → Prop := fun i => i < 0 ∨ ((0 ≤ i ∧ i < k) ∧ Fi (f i))
  have nFi0 : ∀ i, 0 ≤ i ∧ i < k → ¬ Fi (f i) → ¬ Fi0 i := fun i hi hF hh => by
    rcases hh with hh | hh
    · omega
    · exact hF hh.2
  have S0 : St base Fi0 (M.inn k f n) w σ0 := by
    refine ⟨S.base_le, fun i c hl => ?_, fun i t hl => ?_, fun i i' b h1 h2 => ?_, fun i i' b T e ce h1 h2 => ?_, fun i i' T T' b e ce e' ce' h1 h2 h3 h4 => ?_, fun i b h1 => ?_, fun i T b e ce h1 h2 => ?_, fun i hi => ?_⟩
    · obtain ⟨h1, h2, h3⟩ := ho i c hl
      obtain ⟨⟨h4, h5⟩, b, us, e, h6, h7, h8, h9⟩ := S.obs _ _ h3
      exact ⟨⟨nFi0 i h1 h4, by rw [(inn_in h1).2.2]; exact h5⟩, b, us, e, by rw [(inn_in h1).1]; exact h6, h7, h8, RepsL.vnoc V c _ h2 h9⟩
    · obtain ⟨h1, h3⟩ := ht i t hl
      obtain ⟨h4, T, h5, h6, h7⟩ := S.tks _ _ h3
      exact ⟨nFi0 i h1 h4, T, by rw [(inn_in h1).2.1]; exact h5, h6, h7⟩
    · obtain ⟨j, g1, g2⟩ := inn_val h1
      obtain ⟨j', g3, g4⟩ := inn_val h2
      obtain rfl := S.inj _ _ _ g1 g3
      exact inn_one hinj g2 g4
    · obtain ⟨j, g1, g2⟩ := inn_val h1
      obtain ⟨j', g3, g4⟩ := inn_valt h2
      exact S.dis _ _ _ _ _ _ g1 g3
    · obtain ⟨j, g1, g2⟩ := inn_valt h1
      obtain ⟨j', g3, g4⟩ := inn_valt h2
      obtain rfl := S.tinj _ _ _ _ _ _ _ _ _ g1 g3 h3 h4
      exact inn_one hinj g2 g4
    · obtain ⟨j, g1, g2⟩ := inn_val h1
      exact S.obsz _ _ g1
    · obtain ⟨j, g1, g2⟩ := inn_valt h1
      exact S.tksz _ _ _ _ _ g1 h2
    · rw [hkn] at hi
      have hF : ¬ Fi0 i := by rintro (hh | hh) <;> omega
      rcases inn_cases (M := M) (k := k) (f := f) (n := n) i with h1 | ⟨j, rfl, hj, hv⟩ | ⟨h1, h2, h3⟩
      · omega
      · omega
      · exact ⟨h1, h2, hF, h3⟩
  refine (h base Fi0 (M.inn k f n) w vs S0 (RepsL.vnoc V args0 vs ha hr)).mono ?_
  rintro e w' ⟨rv, σ1, M1, v, hk, he, hv, S1, T⟩
  obtain ⟨top, hids, hkle, σ2, mv, hK2⟩ := hK _ _ hk
  have far : ∀ j, j < n → (¬ ∃ i, 0 ≤ i ∧ i < k ∧ f i = j) → (∀ b, M.ob j = some b → M1.ob (j - n) = some b) ∧ (∀ T, M.tk j = some T → M1.tk (j - n) = some T) ∧ (M1.fz (j - n) → M.fz j) := by
    intro j hj hv
    obtain ⟨h1, h2, h3⟩ := inn_far (M := M) (k := k) (f := f) hj hv
    refine ⟨fun b hb => T.ob _ _ (by rw [h1]; exact hb), fun T0 hT => ?_, fun hz => ?_⟩
    · obtain ⟨T1, g1, _, g3⟩ := T.tk _ _ (by rw [h2]; exact hT)
      rcases g3 with rfl | ⟨_, g3⟩
      · exact g1
      · exact absurd (Or.inl (by omega)) g3
    · rw [← h3]; exact T.ffz _ (.inl (by omega)) hz
  have val : ∀ j b, (M.out M1 k f n top).ob j = some b → ∃ i, M1.ob i = some b ∧ (((0 ≤ i ∧ i < top) ∧ rho k f n i = j) ∨ (i = j - n ∧ j < n ∧ ¬ ∃ i, 0 ≤ i ∧ i < k ∧ f i = j)) := by
    intro j b hb
    rcases out_cases (k := k) (f := f) (n := n) hkle hk0 j with ⟨i, h1, h1', rfl, _⟩ | ⟨h1, h2⟩ | ⟨h1, h2⟩
    · exact ⟨i, by rw [← (out_rho hf hinj h1 h1').1]; exact hb, .inl ⟨⟨h1, h1'⟩, rfl⟩⟩
    · exact ⟨j - n, (far j h1 h2).1 b (by rw [← (out_far h1 h2).1]; exact hb), .inr ⟨rfl, h1, h2⟩⟩
    · rw [(out_gone hf h1 h2).1] at hb; cases hb
  have valt : ∀ j b, (M.out M1 k f n top).tk j = some b → ∃ i, M1.tk i = some b ∧ (((0 ≤ i ∧ i < top) ∧ rho k f n i = j) ∨ (i = j - n ∧ j < n ∧ ¬ ∃ i, 0 ≤ i ∧ i < k ∧ f i = j)) := by
    intro j b hb
    rcases out_cases (k := k) (f := f) (n := n) hkle hk0 j with ⟨i, h1, h1', rfl, _⟩ | ⟨h1, h2⟩ | ⟨h1, h2⟩
    · exact ⟨i, by rw [← (out_rho hf hinj h1 h1').2.1]; exact hb, .inl ⟨⟨h1, h1'⟩, rfl⟩⟩
    · exact ⟨j - n, (far j h1 h2).2.1 b (by rw [← (out_far h1 h2).2.1]; exact hb), .inr ⟨rfl, h1, h2⟩⟩
    · rw [(out_gone hf h1 h2).2.1] at hb; cases hb
  have one : ∀ i j j', (((0 ≤ i ∧ i < top) ∧ rho k f n i = j) ∨ (i = j - n ∧ j < n ∧ ¬ ∃ i, 0 ≤ i ∧ i < k ∧ f i = j)) → (((0 ≤ i ∧ i < top) ∧ rho k f n i = j') ∨ (i = j' - n ∧ j' < n ∧ ¬ ∃ i, 0 ≤ i ∧ i < k ∧ f i = j')) → j = j' := by
    rintro i j j' (⟨h1, rfl⟩ | ⟨h1, h2, h3⟩) (⟨k1, k2⟩ | ⟨k1, k2, k3⟩)
    · exact k2
    · omega
    · omega
    · omega
  have hst : ∀ b j, stab M1 b j → stab (M.out M1 k f n top) b j := by
    intro b j hs
    refine ⟨fun jj hb => ?_, fun jj T0 e' ce h1 h2 => ?_⟩
    · obtain ⟨i, h1, h2⟩ := val jj b hb
      have h3 := hs.1 _ h1
      rcases h2 with ⟨h4, rfl⟩ | ⟨rfl, h4, h5⟩
      · rw [(out_rho hf hinj h4.1 h4.2).2.2]; exact h3
      · rw [(out_far h4 h5).2.2]; exact (far jj h4 h5).2.2 h3
    · obtain ⟨i, h3, h4⟩ := valt jj T0 h1
      exact hs.2 _ _ _ _ h3 h2
  have C : Conv M1 (M.out M1 k f n top) (rho k f n) (inK top) := ⟨fun i b hp hb => by rw [(out_rho hf hinj (inK_iff.1 hp).1 (inK_iff.1 hp).2).1]; exact hb, fun i T0 hp hb => by rw [(out_rho hf hinj (inK_iff.1 hp).1 (inK_iff.1 hp).2).2.1]; exact hb, hst⟩
  have TT : Stp base Fi M w (M.out M1 k f n top) w' := by
    refine ⟨T.os, T.tape, T.output, T.size, T.below, fun id b hb => ?_, fun id T0 h0 => ?_, fun b j v hs hc => ?_, fun id b hF hb => ?_, fun id hF hz => ?_, fun id T0 b e' ce hF h0 hb => ?_⟩
    · by_cases hvis : ∃ i, 0 ≤ i ∧ i < k ∧ f i = id
      · obtain ⟨i, h1, h2, rfl⟩ := hvis
        rw [(out_in hinj ⟨h1, h2⟩).1]
        exact T.ob _ _ (by rw [(inn_in ⟨h1, h2⟩).1]; exact hb)
      · rw [(out_far (lt _ _ hb) hvis).1]; exact hb
    · by_cases hvis : ∃ i, 0 ≤ i ∧ i < k ∧ f i = id
      · obtain ⟨i, h1, h2, rfl⟩ := hvis
        rw [(out_in hinj ⟨h1, h2⟩).2.1]
        obtain ⟨T1, g1, g2, g3⟩ := T.tk i T0 (by rw [(inn_in ⟨h1, h2⟩).2.1]; exact h0)
        exact ⟨T1, g1, g2, g3.imp (fun h => h) fun ⟨a, b⟩ => ⟨a, fun hF => b (.inr ⟨⟨h1, h2⟩, hF⟩)⟩⟩
      · rw [(out_far (ltk _ _ h0) hvis).2.1]; exact ⟨T0, h0, rfl, .inl rfl⟩
    · obtain ⟨h1, h2⟩ := T.cell b j v (hst0 b j hs) hc
      exact ⟨h1, hst b j h2⟩
    · by_cases hvis : ∃ i, 0 ≤ i ∧ i < k ∧ f i = id
      · obtain ⟨i, h1, h2, rfl⟩ := hvis
        exact T.fob i b (.inr ⟨⟨h1, h2⟩, hF⟩) (by rw [(inn_in ⟨h1, h2⟩).1]; exact hb)
      · have hlt := lt _ _ hb
        exact T.fob (id - n) b (.inl (by omega)) (by rw [(inn_far hlt hvis).1]; exact hb)
    · have hltn : id < n := Int.lt_of_not_ge fun hle => (S.fresh id (by omega)).2.2.1 hF
      by_cases hvis : ∃ i, 0 ≤ i ∧ i < k ∧ f i = id
      · obtain ⟨i, h1, h2, rfl⟩ := hvis
        rw [(out_in hinj ⟨h1, h2⟩).2.2] at hz
        have := T.ffz i (.inr ⟨⟨h1, h2⟩, hF⟩) hz
        rwa [(inn_in ⟨h1, h2⟩).2.2] at this
      · rwa [(out_far hltn hvis).2.2] at hz
    · by_cases hvis : ∃ i, 0 ≤ i ∧ i < k ∧ f i = id
      · obtain ⟨i, h1, h2, rfl⟩ := hvis
        exact T.ftk i T0 b e' ce (.inr ⟨⟨h1, h2⟩, hF⟩) (by rw [(inn_in ⟨h1, h2⟩).2.1]; exact h0) hb
      · have hlt := ltk _ _ h0
        exact T.ftk (id - n) T0 b e' ce (.inl (by omega)) (by rw [(inn_far hlt hvis).2.1]; exact h0) hb
  have nF : ∀ i, 0 ≤ i → ¬ Fi0 i → ¬ Fi (rho k f n i) := by
    intro i hi hF
    unfold rho
    by_cases hik : i < k
    · rw [if_pos hik]; exact fun hh => hF (.inr ⟨⟨hi, hik⟩, hh⟩)
    · rw [if_neg hik]; exact (S.fresh _ (by omega)).2.2.1
  refine ⟨rv.ren (rho k f n), σ2, M.out M1 k f n top, v, hK2, he, Reps.conv C rv v hids hv, ?_, TT⟩
  have mvo := mv.objs
  have mvt := mv.toks
  have mvn := mv.next
  rw [hn] at mvo mvt mvn
  refine ⟨S1.base_le, fun j c hl => ?_, fun j t hl => ?_, fun j j' b h1 h2 => ?_, fun j j' b T0 e' ce h1 h2 => ?_, fun j j' T0 T1 b e1 ce1 e2 ce2 h1 h2 h3 h4 => ?_, fun j b h1 => ?_, fun j T0 b e' ce h1 h2 => ?_, fun j hj => ?_⟩
  · rcases mvo j c hl with ⟨i, c1, hi, hit, rfl, h1, h2, rfl⟩ | ⟨h1, h2⟩
    · obtain ⟨⟨g1, g2⟩, b, us, e', g3, g4, g5, g6⟩ := S1.obs i c1 h1
      exact ⟨⟨nF i hi g1, by rw [(out_rho hf hinj hi hit).2.2]; exact g2⟩, b, us, e', by rw [(out_rho hf hinj hi hit).1]; exact g3, g4, g5, RepsL.conv C c1 _ h2 g6⟩
    · obtain ⟨⟨g1, g2⟩, b, us, e', g3, g4, g5, g6⟩ := S.obs j c h1
      have hlt := lt _ _ g3
      have hvis : ¬ ∃ i, 0 ≤ i ∧ i < k ∧ f i = j := fun ⟨i, a1, a2, a3⟩ => h2 i a1 a2 a3
      exact ⟨⟨g1, by rw [(out_far hlt hvis).2.2]; exact g2⟩, b, us, e', by rw [(out_far hlt hvis).1]; exact g3, g4, by rw [T.fob (j - n) b (.inl (by omega)) (by rw [(inn_far hlt hvis).1]; exact g3)]; exact g5, RepsL.stp TT _ _ g6⟩
  · rcases mvt j t hl with ⟨i, hi, hit, rfl, h1⟩ | ⟨h1, h2⟩
    · obtain ⟨g1, T1, g2, g3, g4⟩ := S1.tks i t h1
      exact ⟨nF i hi g1, T1, by rw [(out_rho hf hinj hi hit).2.1]; exact g2, g3, g4⟩
    · obtain ⟨g1, T1, g2, g3, g4⟩ := S.tks j t h1
      have hlt := ltk _ _ g2
      have hvis : ¬ ∃ i, 0 ≤ i ∧ i < k ∧ f i = j := fun ⟨i, a1, a2, a3⟩ => h2 i a1 a2 a3
      refine ⟨g1, T1, by rw [(out_far hlt hvis).2.1]; exact g2, g3, fun b e' ce hb => ?_⟩
      obtain ⟨g5, g6⟩ := g4 b e' ce hb
      have hB := T.ftk (j - n) T1 b e' ce (.inl (by omega)) (by rw [(inn_far hlt hvis).2.1]; exact g2) hb
      exact ⟨g5, g6.heap hB⟩
  · obtain ⟨i, g1, g2⟩ := val j b h1
    obtain ⟨i', g3, g4⟩ := val j' b h2
    obtain rfl := S1.inj _ _ _ g1 g3
    exact one _ _ _ g2 g4
  · obtain ⟨i, g1, g2⟩ := val j b h1
    obtain ⟨i', g3, g4⟩ := valt j' T0 h2
    exact S1.dis _ _ _ _ _ _ g1 g3
  · obtain ⟨i, g1, g2⟩ := valt j T0 h1
    obtain ⟨i', g3, g4⟩ := valt j' T1 h2
    obtain rfl := S1.tinj _ _ _ _ _ _ _ _ _ g1 g3 h3 h4
    exact one _ _ _ g2 g4
  · obtain ⟨i, g1, g2⟩ := val j b h1
    exact S1.obsz _ _ g1
  · obtain ⟨i, g1, g2⟩ := valt j T0 h1
    exact S1.tksz _ _ _ _ _ g1 h2
  · have hjn : n ≤ j := by omega
    obtain ⟨g1, g2, g3⟩ := out_gone (M := M) (M1 := M1) hf hjn (show ¬ j - n + k < top by omega)
    exact ⟨g1, g2, (S.fresh j (by omega)).2.2.1, g3⟩
end Go.Proofs.Ytnjkklkjlloedaa
