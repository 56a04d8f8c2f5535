/- Plain laws of numbers and texts in bytes. -/
import Derived.Test.YtnjkklkjlloedaaCode5
namespace Go.Proofs.Ytnjkklkjlloedaa
open Go.RowKit

theorem numOf_foldl (l : List UInt8) (a : Nat) : l.foldl (fun a b => a * 256 + b.toNat) a = a * 256 ^ l.length + numOf l := by
  induction l generalizing a with
  | nil => simp [numOf]
  | cons x r ih =>
    simp only [List.foldl_cons, numOf, List.length_cons]
    rw [ih, ih (0 * 256 + x.toNat)]
    simp only [Nat.pow_succ, Nat.zero_mul, Nat.zero_add, Nat.add_mul, Nat.mul_assoc, Nat.mul_comm 256, Nat.add_assoc]
theorem numOf_cons (x : UInt8) (l : List UInt8) : numOf (x :: l) = x.toNat * 256 ^ l.length + numOf l := by
  rw [← numOf_foldl]; simp [numOf]
theorem numOf_numB (n : Nat) (h : n < 281474976710656) : numOf (numB n) = n := by
  simp [numB, numOf]
  omega
theorem bytesLess_num (a b : List UInt8) (h : a.length = b.length) : Op.bytesLess a b = decide (numOf a < numOf b) := by
  induction a generalizing b with
  | nil =>
    cases b with
    | nil => simp [Op.bytesLess]
    | cons _ _ => cases h
  | cons x a ih =>
    cases b with
    | nil => cases h
    | cons y b =>
      have hl : a.length = b.length := by simpa using h
      have h1 := numOf_lt a
      have h2 := numOf_lt b
      rw [numOf_cons, numOf_cons, hl]
      rw [hl] at h1
      generalize 256 ^ b.length = k at *
      simp only [Op.bytesLess, ih b hl]
      rcases Nat.lt_trichotomy x.toNat y.toNat with hlt | heq | hgt
      · have hlt' : x < y := UInt8.lt_iff_toNat_lt.2 hlt
        have : x.toNat * k + k ≤ y.toNat * k := by rw [← Nat.succ_mul]; exact Nat.mul_le_mul_right _ hlt
        have hd : decide (x.toNat * k + numOf a < y.toNat * k + numOf b) = true := by simp; omega
        rw [hd]; simp [hlt']
      · obtain rfl : x = y := UInt8.toNat.inj heq
        simp
      · have hgt' : y < x := UInt8.lt_iff_toNat_lt.2 hgt
        have : y.toNat * k + k ≤ x.toNat * k := by rw [← Nat.succ_mul]; exact Nat.mul_le_mul_right _ hgt
        have hd : decide (x.toNat * k + numOf a < y.toNat * k + numOf b) = false := by simp; omega
        rw [hd]
        have hne : ¬ x < y := by rw [UInt8.lt_iff_toNat_lt]; omega
        have hne2 : x ≠ y := by rintro rfl; omega
        simp [hne, hne2]
theorem bytesLess_numB (m n : Nat) (hm : m ≤ 1099511627776) (hn : n ≤ 1099511627776) : Op.bytesLess (numB m) (numB n) = decide (m < n) := by
  rw [bytesLess_num _ _ (by simp [numB]), numOf_numB m (by omega), numOf_numB n (by omega)]
theorem rnum_numB (n : Nat) (hn : n ≤ 1099511627776) (least most : Int) (bs : List UInt8) : rnum least most (numB n ++ bs, false) = if (n : Int) < least ∨ most < n then (0, (bs, true)) else ((n : Int), (bs, false)) := by
  have hg : rget 6 (numB n ++ bs, false) = (n, (bs, false)) := by
    unfold rget
    have hl : (numB n).length = 6 := rfl
    rw [if_neg (by simp [hl])]
    rw [← hl, List.take_left, List.drop_left, numOf_numB n (by omega)]
  unfold rnum
  rw [hg]
  simp
end Go.Proofs.Ytnjkklkjlloedaa
