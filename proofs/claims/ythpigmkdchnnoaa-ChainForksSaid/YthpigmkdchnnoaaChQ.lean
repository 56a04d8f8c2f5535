/- Law 12: what a chain's sums tell of its links (plain). -/
import Derived.Test.YthpigmkdchnnoaaChP
namespace Go.Proofs.Ythpigmkdchnnoaa
open Go.RowKit
set_option linter.unusedVariables false
set_option linter.unusedSimpArgs false
theorem ofNat_eq {a b : Nat} (h : UInt8.ofNat a = UInt8.ofNat b) : a % 256 = b % 256 := by
  have := congrArg UInt8.toNat h
  simpa using this
theorem signB_inj {c : UInt8} {a b : Nat} (ha : a < 16777216) (hb : b < 16777216) (h : signB c a = signB c b) : a = b := by
  unfold signB at h
  have h1 := List.append_cancel_left h
  simp only [eightB, List.cons.injEq, and_true] at h1
  obtain ⟨_, _, _, _, _, h2, h3, h4⟩ := h1
  have h2 := ofNat_eq h2
  have h3 := ofNat_eq h3
  have h4 := ofNat_eq h4
  omega
theorem numB_inj_ {a b : Nat} (ha : a ≤ 1099511627776) (hb : b ≤ 1099511627776) (h : numB a = numB b) : a = b := by
  simp only [numB, List.cons.injEq, and_true] at h
  obtain ⟨h1, h2, h3, h4, h5, h6⟩ := h
  have h1 := ofNat_eq h1
  have h2 := ofNat_eq h2
  have h3 := ofNat_eq h3
  have h4 := ofNat_eq h4
  have h5 := ofNat_eq h5
  have h6 := ofNat_eq h6
  omega
theorem firstT_inj {a b : Nat} (ha : a ≤ 1099511627776) (hb : b ≤ 1099511627776) (h : firstT a = firstT b) : a = b := numB_inj_ ha hb (List.append_cancel_left h)
theorem sumN_inj {xs : List (List UInt8)} {x y : List UInt8} (hx : x ∈ xs) (hy : y ∈ xs) (h : sumN xs x = sumN xs y) : x = y := by
  unfold sumN at h
  have h1 := List.idxOf_lt_length_of_mem hx
  have h2 := List.idxOf_lt_length_of_mem hy
  have h3 : xs[xs.idxOf x] = x := List.getElem_idxOf h1
  have h4 : xs[xs.idxOf y] = y := List.getElem_idxOf h2
  have h5 : xs.idxOf x = xs.idxOf y := by omega
  rw [← h3, ← h4]
  congr 1
theorem sumN_lt {xs : List (List UInt8)} {x : List UInt8} : sumN xs x ≤ xs.length + 1 := by unfold sumN; have := List.idxOf_le_length (a := x) (l := xs); omega
theorem sumN_grow {xs : List (List UInt8)} {x : List UInt8} (hx : x ∈ xs) (t : List UInt8) : sumN (sumX xs t) x = sumN xs x := by
  unfold sumX
  split
  · rfl
  · unfold sumN; rw [List.idxOf_append, if_pos hx]
theorem sumX_keep {xs : List (List UInt8)} {x : List UInt8} (hx : x ∈ xs) (t : List UInt8) : x ∈ sumX xs t := by
  unfold sumX
  split
  · exact hx
  · exact List.mem_append_left _ hx
theorem sumX_mem (xs : List (List UInt8)) (t : List UInt8) : t ∈ sumX xs t := by
  unfold sumX
  split
  · assumption
  · simp
theorem sumN_self (xs : List (List UInt8)) (t : List UInt8) : sumN (sumX xs t) t = sumN xs t := by
  by_cases h : t ∈ xs
  · exact sumN_grow h t
  · unfold sumX sumN
    rw [if_neg h, List.idxOf_append, if_neg h, List.idxOf_eq_length h]
    simp
/-- These are the sums of a chain of number n with these links. -/
structure SumsOf (xs : List (List UInt8)) (n : Nat) (ls ss : List (List UInt8)) : Prop where
  first : ss[0]? = some (signB 72 (sumN xs (firstT n)))
  known : firstT n ∈ xs
  next : ∀ (i : Nat) (y l : List UInt8), ss[i]? = some y → ls[i]? = some l → y ++ l ∈ xs ∧ ss[i + 1]? = some (signB 72 (sumN xs (y ++ l)))
theorem SumsOf.ini (xs : List (List UInt8)) (n : Nat) : SumsOf (sumX xs (firstT n)) n [] [signB 72 (sumN xs (firstT n))] :=
  ⟨by simp [sumN_self], sumX_mem _ _, fun i y l _ h => by simp at h⟩
theorem SumsOf.grow {xs : List (List UInt8)} {n : Nat} {ls ss : List (List UInt8)} (h : SumsOf xs n ls ss) (t : List UInt8) : SumsOf (sumX xs t) n ls ss :=
  ⟨by rw [sumN_grow h.known]; exact h.first, sumX_keep h.known t, fun i y l h1 h2 => by
    obtain ⟨h3, h4⟩ := h.next i y l h1 h2
    exact ⟨sumX_keep h3 t, by rw [sumN_grow h3]; exact h4⟩⟩
theorem SumsOf.growX {xs : List (List UInt8)} {n : Nat} {ls ss : List (List UInt8)} (h : SumsOf xs n ls ss) (ls2 ss2 : List (List UInt8)) (x : List UInt8) : SumsOf (apX ls2 ss2 xs x) n ls ss := by
  unfold apX
  split
  · exact h.grow _
  · exact h
theorem SumsOf.step {xs : List (List UInt8)} {n : Nat} {ls ss : List (List UInt8)} (h : SumsOf xs n ls ss) (hl : ss.length = ls.length + 1) (x : List UInt8) : SumsOf (apX ls ss xs x) n (apL ls x) (apS ls ss xs x) := by
  unfold apL apS apX
  by_cases hE : apE ls x = 0
  · rw [if_pos hE, if_pos hE, if_pos hE]
    have g := h.grow (apT ls ss x)
    refine ⟨?_, g.known, fun i y l h1 h2 => ?_⟩
    · rw [List.getElem?_append_left (by omega)]; exact g.first
    · by_cases hi : i < ls.length
      · rw [List.getElem?_append_left (by omega)] at h1
        rw [List.getElem?_append_left hi] at h2
        rw [List.getElem?_append_left (by omega)]
        exact g.next i y l h1 h2
      · rw [List.getElem?_append_right (by omega)] at h2
        obtain ⟨h3, h4⟩ := List.getElem?_eq_some_iff.1 h2
        have h5 : i = ls.length := by simp at h3; omega
        subst h5
        simp at h4
        subst h4
        rw [List.getElem?_append_left (by omega)] at h1
        have hT : apT ls ss x = y ++ x := by unfold apT; rw [List.getD_eq_getElem?_getD, h1]; rfl
        rw [hT]
        refine ⟨sumX_mem _ _, ?_⟩
        rw [List.getElem?_append_right (by omega), sumN_self, show ls.length + 1 - ss.length = 0 by omega]
        rfl
  · rw [if_neg hE, if_neg hE, if_neg hE]
    exact h
theorem fork0 {xs ls1 ss1 ls2 ss2 : List (List UInt8)} {m n : Nat} (h1 : SumsOf xs m ls1 ss1) (h2 : SumsOf xs n ls2 ss2) (hx : xs.length ≤ 1000000) (hm : m ≤ 1099511627776) (hn : n ≤ 1099511627776) : ss1.getD 0 [] = ss2.getD 0 [] ↔ m = n := by
  rw [List.getD_eq_getElem?_getD, List.getD_eq_getElem?_getD, h1.first, h2.first]
  simp only [Option.getD_some]
  constructor
  · intro h
    have l1 := sumN_lt (xs := xs) (x := firstT m)
    have l2 := sumN_lt (xs := xs) (x := firstT n)
    exact firstT_inj hm hn (sumN_inj h1.known h2.known (signB_inj (by omega) (by omega) h))
  · rintro rfl; rfl
theorem forkS {xs ls1 ss1 ls2 ss2 : List (List UInt8)} {m n : Nat} (h1 : SumsOf xs m ls1 ss1) (h2 : SumsOf xs n ls2 ss2) (k1 : ChOk ls1 ss1 xs) (k2 : ChOk ls2 ss2 xs) {k : Nat} (e1 : k < ls1.length) (e2 : k < ls2.length) : ss1.getD (k + 1) [] = ss2.getD (k + 1) [] ↔ ss1.getD k [] = ss2.getD k [] ∧ ls1.getD k [] = ls2.getD k [] := by
  have hx := k1.few
  have g1 : ss1[k]? = some (ss1.getD k []) := by rw [List.getD_eq_getElem?_getD, List.getElem?_eq_getElem (by have := k1.len; omega)]; rfl
  have g2 : ss2[k]? = some (ss2.getD k []) := by rw [List.getD_eq_getElem?_getD, List.getElem?_eq_getElem (by have := k2.len; omega)]; rfl
  have g3 : ls1[k]? = some (ls1.getD k []) := by rw [List.getD_eq_getElem?_getD, List.getElem?_eq_getElem e1]; rfl
  have g4 : ls2[k]? = some (ls2.getD k []) := by rw [List.getD_eq_getElem?_getD, List.getElem?_eq_getElem e2]; rfl
  have l1 := k1.sums _ (List.mem_of_getElem? g1)
  have l2 := k2.sums _ (List.mem_of_getElem? g2)
  generalize ss1.getD k [] = y1 at *
  generalize ss2.getD k [] = y2 at *
  generalize ls1.getD k [] = z1 at *
  generalize ls2.getD k [] = z2 at *
  obtain ⟨m1, n1⟩ := h1.next k y1 z1 g1 g3
  obtain ⟨m2, n2⟩ := h2.next k y2 z2 g2 g4
  rw [List.getD_eq_getElem?_getD, List.getD_eq_getElem?_getD, n1, n2]
  simp only [Option.getD_some]
  constructor
  · intro h
    have b1 := sumN_lt (xs := xs) (x := y1 ++ z1)
    have b2 := sumN_lt (xs := xs) (x := y2 ++ z2)
    exact List.append_inj (sumN_inj m1 m2 (signB_inj (by omega) (by omega) h)) (by omega)
  · rintro ⟨rfl, rfl⟩; rfl
end Go.Proofs.Ythpigmkdchnnoaa
