/- Plain laws of reading numbers and texts out of bytes. -/
import Derived.Test.YtnjkklkjlloedaaPlain8
namespace Go.Proofs.Ytnjkklkjlloedaa
open Go.RowKit
set_option linter.unusedVariables false
set_option linter.unusedSimpArgs false
theorem rnum_bad (lo hi : Int) (l : List UInt8) : (rnum lo hi (l, true)).2.2 = true := by unfold rnum; rw [if_pos (.inl (by simp [rget]))]
theorem rtext_bad (lo hi : Int) (l : List UInt8) : (rtext lo hi (l, true)).2.2 = true := by unfold rtext; rw [if_pos (.inl (by simp [rget]))]
theorem numB_numOf {l : List UInt8} (h : l.length = 6) : numB (numOf l) = l := by
  match l, h with
  | [a, b, c, d, e, f], _ =>
    have ha := a.toNat_lt
    have hb := b.toNat_lt
    have hc := c.toNat_lt
    have hd := d.toNat_lt
    have he := e.toNat_lt
    have hf := f.toNat_lt
    simp only [numOf, List.foldl_cons, List.foldl_nil, numB]
    have key : ∀ (x : UInt8) (n : Nat), n % 256 = x.toNat → UInt8.ofNat n = x := fun x n hn => UInt8.toNat_inj.1 (by simp [hn])
    rw [key a _ (by omega), key b _ (by omega), key c _ (by omega), key d _ (by omega), key e _ (by omega), key f _ (by omega)]
theorem two_numOf {l : List UInt8} (h : l.length = 2) : [UInt8.ofNat (numOf l / 256), UInt8.ofNat (numOf l)] = l := by
  match l, h with
  | [a, b], _ =>
    have ha := a.toNat_lt
    have hb := b.toNat_lt
    simp only [numOf, List.foldl_cons, List.foldl_nil]
    have key : ∀ (x : UInt8) (n : Nat), n % 256 = x.toNat → UInt8.ofNat n = x := fun x n hn => UInt8.toNat_inj.1 (by simp [hn])
    rw [key a _ (by omega), key b _ (by omega)]
theorem rnum_fwd {n : Nat} (hn : n < 281474976710656) {lo hi : Int} (h1 : lo ≤ n) (h2 : (n : Int) ≤ hi) (r : List UInt8) : rnum lo hi (numB n ++ r, false) = ((n : Int), (r, false)) := by
  have hg : rget 6 (numB n ++ r, false) = (n, (r, false)) := by
    unfold rget
    have hl : (numB n).length = 6 := rfl
    rw [if_neg (by simp [hl])]
    rw [← hl, List.take_left, List.drop_left, numOf_numB n hn]
  unfold rnum
  rw [hg, if_neg (by simp; omega)]
theorem rtext_fwd {t : List UInt8} (hn : t.length < 65536) {lo hi : Int} (h1 : lo ≤ t.length) (h2 : (t.length : Int) ≤ hi) (r : List UInt8) : rtext lo hi (textB t ++ r, false) = (t, (r, false)) := by
  have hg : rget 2 (textB t ++ r, false) = (t.length, (t ++ r, false)) := by
    unfold rget
    rw [if_neg (by simp [textB])]
    have : numOf ((textB t ++ r).take 2) = t.length := by
      simp [textB, numOf]
      omega
    rw [this]
    simp [textB]
  unfold rtext
  rw [hg, if_neg (by simp; omega), if_neg (by simp)]
  simp
theorem rget_good {n : Nat} {s : RS} (h : (rget n s).2.2 = false) : s.2 = false ∧ n ≤ s.1.length ∧ rget n s = (numOf (s.1.take n), (s.1.drop n, false)) := by
  unfold rget at h ⊢
  split at h
  · cases h
  · rename_i hn
    rw [not_or] at hn
    rw [if_neg (by simpa using hn)]
    exact ⟨by simpa using hn.1, by omega, rfl⟩
theorem rnum_inv {lo hi : Int} {s : RS} (h : (rnum lo hi s).2.2 = false) : s.2 = false ∧ ∃ (n : Nat) (r : List UInt8), s.1 = numB n ++ r ∧ n < 281474976710656 ∧ lo ≤ n ∧ (n : Int) ≤ hi ∧ rnum lo hi s = ((n : Int), (r, false)) := by
  have h0 := h
  unfold rnum at h
  split at h
  · cases h
  · rename_i hc
    rw [not_or, not_or] at hc
    obtain ⟨g1, g2, g3⟩ := rget_good (n := 6) (s := s) (by simpa using hc.1)
    refine ⟨g1, numOf (s.1.take 6), s.1.drop 6, ?_, ?_, ?_, ?_, ?_⟩
    · rw [numB_numOf (by rw [List.length_take]; omega), List.take_append_drop]
    · have := numOf_lt (s.1.take 6)
      rw [List.length_take, Nat.min_eq_left g2] at this
      exact this
    · have := hc.2.1; rw [g3] at this; simpa using this
    · have := hc.2.2; rw [g3] at this; simpa using this
    · unfold rnum
      rw [if_neg (by rw [not_or, not_or]; exact hc), g3]
theorem rtext_inv {lo hi : Int} {s : RS} (h : (rtext lo hi s).2.2 = false) : s.2 = false ∧ ∃ (t r : List UInt8), s.1 = textB t ++ r ∧ t.length < 65536 ∧ lo ≤ t.length ∧ (t.length : Int) ≤ hi ∧ rtext lo hi s = (t, (r, false)) := by
  unfold rtext at h
  split at h
  · cases h
  · rename_i hc
    split at h
    · cases h
    · rename_i hl
      have hc' := hc
      rw [not_or, not_or] at hc
      obtain ⟨g1, g2, g3⟩ := rget_good (n := 2) (s := s) (by simpa using hc.1)
      rw [g3] at hl hc
      dsimp only at hl hc
      have hlen : ((s.1.drop 2).take (numOf (s.1.take 2))).length = numOf (s.1.take 2) := by rw [List.length_take]; omega
      refine ⟨g1, (s.1.drop 2).take (numOf (s.1.take 2)), (s.1.drop 2).drop (numOf (s.1.take 2)), ?_, ?_, ?_, ?_, ?_⟩
      · unfold textB
        rw [hlen, two_numOf (by rw [List.length_take]; omega), List.append_assoc, List.take_append_drop, List.take_append_drop]
      · rw [hlen]
        have := numOf_lt (s.1.take 2)
        rw [List.length_take, Nat.min_eq_left g2] at this
        exact this
      · rw [hlen]; omega
      · rw [hlen]; omega
      · unfold rtext
        rw [if_neg hc', g3]
        dsimp only
        rw [if_neg hl]
theorem numB_length (n : Nat) : (numB n).length = 6 := rfl
end Go.Proofs.Ytnjkklkjlloedaa
