/- How rows of texts come in. -/
import Derived.Test.YtnjkklkjlloedaaArgA
namespace Go.Proofs.Ytnjkklkjlloedaa
open Go.RowKit
set_option linter.unusedVariables false
set_option linter.unusedSimpArgs false
theorem RLinks.repsA {w : World} {v : Value} {ls : List (List UInt8)} (h : RSlice 1 RBytes w [v] ls) : Reps MM.none w (lkA ls) v ∧ ls.length ≤ 9223372036854775807 := by
  obtain ⟨A, c, cells, h1, h2, h3⟩ := h
  simp only [List.cons.injEq, and_true] at h1
  subst h1
  have hc := h2.cap
  have hm := h2.max
  refine ⟨?_, by simp only [maxLen] at hm; omega⟩
  have hl := h2.len
  rw [Nat.mul_one] at hl
  unfold Reps
  refine ⟨A, c, cells, rfl, hc, hm, h2.nil, h2.cells.imp (fun h => h) fun ⟨b, o, hA, hx⟩ => ⟨b, o, hA, fun j u hu => ⟨hx j u hu, stab_none _ _⟩⟩, ?_, fun h0 => by rw [List.eq_nil_of_length_eq_zero h0]; rfl, trivial⟩
  refine RepsL.of_get (by simp [hl]) fun j a u ha hu => ?_
  rw [List.getElem?_map] at ha
  cases hj : ls[j]? with
  | none => rw [hj] at ha; cases ha
  | some m =>
    rw [hj] at ha
    simp only [Option.map_some, Option.some.injEq] at ha
    subst ha
    have h4 := h3 j m hj
    have h5 : (cells.drop (j * 1)).take 1 = [u] := by
      obtain ⟨hlt, rfl⟩ := List.getElem?_eq_some_iff.1 hu
      rw [Nat.mul_one, List.drop_eq_getElem_cons hlt]
      rfl
    rw [h5] at h4
    exact h4.repsA
theorem open_links : Opens Try.prog 26 (RSlice 1 RBytes) := opens_slice Try.underlying26 (by kernel_rfl) (by omega) (opens_bytes Try.underlying27 Try.underlying5 (by kernel_rfl))
theorem open_byt : Opens Try.prog 27 RBytes := opens_bytes Try.underlying27 Try.underlying5 (by kernel_rfl)
end Go.Proofs.Ytnjkklkjlloedaa
