/- What mac works out, in plain Lean. -/
import Derived.Test.YtdekfobcdmlelaaSha7
namespace Go.Proofs.Ytdekfobcdmlelaa
open Go.RowKit
set_option linter.unusedVariables false
set_option linter.unusedSimpArgs false

/-- The key that is padded. -/
def keyK (key : List UInt8) : List UInt8 := if 64 < key.length then sumB key else key
theorem keyK_length (key : List UInt8) : (keyK key).length ≤ 64 := by
  unfold keyK
  split
  · rw [sumB_length]; decide
  · omega
/-- A key of a block, xored. -/
def padK (key : List UInt8) (x : UInt8) : List UInt8 := (List.range 64).map fun i => (keyK key).getD i 0 ^^^ x
theorem padK_length (key : List UInt8) (x : UInt8) : (padK key x).length = 64 := by simp [padK]
/-- The code of a message. -/
def macB (key msg : List UInt8) : List UInt8 := sumB (padK key 92 ++ sumB (padK key 54 ++ msg))
theorem macB_length (key msg : List UInt8) : (macB key msg).length = 32 := sumB_length _
theorem keyK_of_short {key : List UInt8} (h : key.length ≤ 64) : keyK key = key := by rw [keyK, if_neg (by omega)]
theorem keyK_of_long {key : List UInt8} (h : 64 < key.length) : keyK key = sumB key := by rw [keyK, if_pos h]
theorem padK_zeros (key : List UInt8) (z : Nat) (h : key.length + z ≤ 64) (x : UInt8) : padK (key ++ List.replicate z 0) x = padK key x := by
  rw [padK, padK, keyK_of_short (by simpa using h), keyK_of_short (by omega)]
  refine List.map_congr_left (fun i hi => ?_)
  congr 1
  simp only [List.getD_eq_getElem?_getD]
  by_cases hk : i < key.length
  · rw [List.getElem?_append_left hk]
  · rw [List.getElem?_append_right (by omega), List.getElem?_eq_none (l := key) (by omega)]
    by_cases hz : i - key.length < z
    · rw [List.getElem?_replicate, if_pos hz]; rfl
    · rw [List.getElem?_replicate, if_neg hz]
theorem macB_zeros (key msg : List UInt8) (z : Nat) (h : key.length + z ≤ 64) : macB (key ++ List.replicate z 0) msg = macB key msg := by
  rw [macB, macB, padK_zeros key z h, padK_zeros key z h]
theorem padK_sum (key : List UInt8) (h : 64 < key.length) (x : UInt8) : padK (sumB key) x = padK key x := by
  rw [padK, padK, keyK_of_short (by rw [sumB_length]; decide), keyK_of_long h]
theorem macB_sum (key msg : List UInt8) (h : 64 < key.length) : macB (sumB key) msg = macB key msg := by
  rw [macB, macB, padK_sum key h, padK_sum key h]
/-- The first k bytes of a padded key, as one writes them behind one another. -/
theorem padK_take (key : List UInt8) (x : UInt8) (k : Nat) (hk : k < 64) : (padK key x).take (k + 1) = (padK key x).take k ++ [(keyK key).getD k 0 ^^^ x] := by
  rw [List.take_add_one]
  simp [padK, hk]
/-- The blocks of what is spread. -/
def exB (key info : List UInt8) : Nat → List UInt8
  | 0 => []
  | i + 1 => macB key ((if i = 0 then [] else exB key info i) ++ info ++ [UInt8.ofNat (i + 1)])
def exAll (key info : List UInt8) : Nat → List UInt8
  | 0 => []
  | i + 1 => exAll key info i ++ exB key info (i + 1)
theorem exB_length (key info : List UInt8) (i : Nat) : (exB key info (i + 1)).length = 32 := macB_length _ _
theorem exAll_length (key info : List UInt8) : ∀ i, (exAll key info i).length = 32 * i
  | 0 => rfl
  | i + 1 => by rw [exAll, List.length_append, exAll_length key info i, exB_length]; omega
theorem exB_step (key info : List UInt8) (i : Nat) : exB key info (i + 1) = macB key (exB key info i ++ info ++ [UInt8.ofNat (i + 1)]) := by
  cases i with
  | zero => rfl
  | succ i => rw [exB]; simp
/-- Fewer are the beginning of more. -/
theorem exAll_take (key info : List UInt8) (i j n : Nat) (hi : n ≤ 32 * i) (hij : i ≤ j) : (exAll key info j).take n = (exAll key info i).take n := by
  induction j with
  | zero => obtain rfl : i = 0 := by omega
            rfl
  | succ j ih =>
    rcases Nat.lt_or_eq_of_le hij with h | rfl
    · rw [exAll, List.take_append_of_le_length (by rw [exAll_length]; omega), ih (by omega)]
    · rfl
/-- HMAC's example: the key 'Jefe'. -/
theorem macB_jefe : macB [74, 101, 102, 101] ([119, 104, 97, 116, 32, 100, 111, 32, 121, 97, 32] ++ [119, 97, 110, 116, 32, 102, 111, 114, 32, 110, 111, 116, 104, 105, 110, 103, 63]) = [91, 220, 193, 70, 191, 96, 117, 78, 106, 4, 36, 38, 8, 149, 117, 199, 90, 0, 63, 8, 157, 39, 57, 131, 157, 236, 88, 185, 100, 236, 56, 67] := by decide +kernel
end Go.Proofs.Ytdekfobcdmlelaa
