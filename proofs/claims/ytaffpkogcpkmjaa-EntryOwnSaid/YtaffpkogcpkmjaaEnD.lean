/- entry: Decode, by the abstract machine. -/
import Derived.Test.YtaffpkogcpkmjaaEnC2
namespace Go.Proofs.Ytaffpkogcpkmjaa
open Go.RowKit
set_option linter.unusedVariables false
set_option linter.unusedSimpArgs false
set_option maxRecDepth 10000
/-- So many wraps, read. -/
def rwraps : Nat → RS → List Wp × RS
  | 0, s => ([], s)
  | n + 1, s => if s.2 = true then ([], s) else (⟨(rnum 1 16 s).1, (rtext 48 48 (rnum 1 16 s).2).1⟩ :: (rwraps n (rtext 48 48 (rnum 1 16 s).2).2).1, (rwraps n (rtext 48 48 (rnum 1 16 s).2).2).2)
def enS1 (b : List UInt8) : Int × RS := rnum 1 5 (b, false)
def enS2 (b : List UInt8) : Int × RS := rnum 1 16 (enS1 b).2
def enS3 (b : List UInt8) : Int × RS := rnum 1 1099511627776 (enS2 b).2
def enT1 (b : List UInt8) : List UInt8 × RS := rtext 1 64 (enS3 b).2
def enT2 (b : List UInt8) : List UInt8 × RS := rtext 0 512 (enT1 b).2
def enW1 (b : List UInt8) : Int × RS := rnum 1 16 (enS3 b).2
def enW2 (b : List UInt8) : Int × RS := rnum 1 7 (enW1 b).2
def enE1 (b : List UInt8) : Int × RS := rnum 1 16 (enS3 b).2
def enE2 (b : List UInt8) : Int × RS := rnum 0 16 (enE1 b).2
def enE3 (b : List UInt8) : List Wp × RS := rwraps (enE2 b).1.toNat (enE2 b).2
def enF (b : List UInt8) : En × RS :=
  if (enS1 b).1 = 1 then (⟨(enS1 b).1, (enS2 b).1, (enS3 b).1, (enT1 b).1, (enT2 b).1, 0, 0, 0, []⟩, (enT2 b).2)
  else if (enS1 b).1 = 2 then (⟨(enS1 b).1, (enS2 b).1, (enS3 b).1, (enT1 b).1, [], 0, 0, 0, []⟩, (enT1 b).2)
  else if (enS1 b).1 = 3 then (⟨(enS1 b).1, (enS2 b).1, (enS3 b).1, [], [], (enW1 b).1, (enW2 b).1, 0, []⟩, (enW2 b).2)
  else if (enS1 b).1 = 4 then (⟨(enS1 b).1, (enS2 b).1, (enS3 b).1, [], [], (enW1 b).1, 0, 0, []⟩, (enW1 b).2)
  else if (enS1 b).1 = 5 then (⟨(enS1 b).1, (enS2 b).1, (enS3 b).1, [], [], 0, 0, (enE1 b).1, (enE3 b).1⟩, (enE3 b).2)
  else (⟨(enS1 b).1, (enS2 b).1, (enS3 b).1, [], [], 0, 0, 0, []⟩, (enS3 b).2)
def enOk (b : List UInt8) : Prop := (enF b).2.2 = false ∧ (enF b).2.1 = [] ∧ EnOk (enF b).1
instance (b : List UInt8) : Decidable (enOk b) := by unfold enOk; infer_instance
def zeroE : En := ⟨0, 0, 0, [], [], 0, 0, 0, []⟩
def enD (b : List UInt8) : AV := if enOk b then .tup [enA (enF b).1, .int .i64 0] else .tup [enA zeroE, .int .i64 10]
theorem enE_shut (f : En) (e : Int) : (AV.tup [enA f, .int .i64 e]).shut = true := by
  have := enA_shut f
  unfold AV.shut AV.shutL AV.shutL AV.shutL
  rw [this]
  simp [AV.shut]
theorem enD_shut (b : List UInt8) : (enD b).shut = true := by unfold enD; split <;> exact enE_shut _ _
theorem rtext_len {lo hi : Int} (s : RS) (h0 : 0 ≤ hi) : ((rtext lo hi s).1.length : Int) ≤ hi := by
  unfold rtext
  split
  · simpa using h0
  · rename_i hc
    split
    · simpa using h0
    · rw [not_or, not_or] at hc
      rw [List.length_take]
      omega
theorem rnum_range {least most : Int} (s : RS) (h0 : least ≤ 0) (h1 : 0 ≤ most) : least ≤ (rnum least most s).1 ∧ (rnum least most s).1 ≤ most := by
  unfold rnum
  split
  · exact ⟨h0, h1⟩
  · simp; omega
theorem rwraps_len : ∀ (n : Nat) (s : RS), (rwraps n s).1.length ≤ n ∧ ∀ w ∈ (rwraps n s).1, w.box.length ≤ 48
  | 0, s => by simp [rwraps]
  | n + 1, s => by
    unfold rwraps
    split
    · simp
    · have := rwraps_len n (rtext 48 48 (rnum 1 16 s).2).2
      refine ⟨by simp only [List.length_cons]; omega, fun w hw => ?_⟩
      rcases List.mem_cons.1 hw with rfl | hw
      · have := rtext_len (lo := 48) (hi := 48) (rnum 1 16 s).2 (by omega)
        simp only
        omega
      · exact this.2 w hw
theorem enF_mid (b : List UInt8) : (enF b).1.Mid := by
  have t1 := rtext_len (lo := 1) (hi := 64) (enS3 b).2 (by omega)
  have t2 := rtext_len (lo := 0) (hi := 512) (enT1 b).2 (by omega)
  have n1 := rnum_range (least := 0) (most := 16) (enE1 b).2 (by omega) (by omega)
  have w1 := rwraps_len (enE2 b).1.toNat (enE2 b).2
  have e1 : (enE2 b).1.toNat ≤ 16 := by have : (enE2 b).1 ≤ 16 := n1.2; omega
  have q1 : (enT1 b).1.length ≤ 64 := by have : ((enT1 b).1.length : Int) ≤ 64 := t1; omega
  have q2 : (enT2 b).1.length ≤ 512 := by have : ((enT2 b).1.length : Int) ≤ 512 := t2; omega
  have q3 : (enE3 b).1.length ≤ 16 := by have : (enE3 b).1.length ≤ (enE2 b).1.toNat := w1.1; omega
  have q4 : ∀ w ∈ (enE3 b).1, w.box.length ≤ 48 := w1.2
  unfold enF
  split
  · exact ⟨by simp only; omega, by simp only; omega, by simp, by simp⟩
  · split
    · exact ⟨by simp only; omega, by simp, by simp, by simp⟩
    · split
      · exact ⟨by simp, by simp, by simp, by simp⟩
      · split
        · exact ⟨by simp, by simp, by simp, by simp⟩
        · split
          · exact ⟨by simp, by simp, by simp only; omega, fun w hw => by have := q4 w hw; omega⟩
          · exact ⟨by simp, by simp, by simp, by simp⟩
end Go.Proofs.Ytaffpkogcpkmjaa
