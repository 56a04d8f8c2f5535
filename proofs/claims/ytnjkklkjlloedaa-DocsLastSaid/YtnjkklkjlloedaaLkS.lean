/- How rows of rows, and rows of strings, come in. -/
import Derived.Test.YtnjkklkjlloedaaLkO
namespace Go.Proofs.Ytnjkklkjlloedaa
open Go.RowKit
set_option linter.unusedVariables false
set_option linter.unusedSimpArgs false
theorem RSlice.repsA1 {M : Type} {R : World → List Value → M → Prop} (f : M → AV) (hf : ∀ {w : World} {v : Value} {m : M}, R w [v] m → Reps MM.none w (f m) v) {w : World} {v : Value} {ls : List M} (h : RSlice 1 R w [v] ls) : Reps MM.none w (.sl .none (ls.map f) ls.length) v ∧ ls.length ≤ 9223372036854775807 ∧ ∀ m ∈ ls, ∃ v, R w [v] m := by
  obtain ⟨A, c, cells, h1, h2, h3⟩ := h
  simp only [List.cons.injEq, and_true] at h1
  subst h1
  have hc := h2.cap
  have hm := h2.max
  have hl := h2.len
  rw [Nat.mul_one] at hl
  have key : ∀ (j : Nat) (m : M), ls[j]? = some m → ∃ u, cells[j]? = some u ∧ R w [u] m := by
    intro j m hj
    have h4 := h3 j m hj
    have hlt : j < cells.length := by
      have := (List.getElem?_eq_some_iff.1 hj).1
      omega
    have h5 : (cells.drop (j * 1)).take 1 = [cells[j]] := by
      rw [Nat.mul_one, List.drop_eq_getElem_cons hlt]
      rfl
    rw [h5] at h4
    exact ⟨_, List.getElem?_eq_getElem hlt, h4⟩
  refine ⟨?_, by simp only [maxLen] at hm; omega, fun m hmem => ?_⟩
  · unfold Reps
    refine ⟨A, c, cells, rfl, hc, hm, h2.nil, h2.cells.imp (fun h => h) fun ⟨b, o, hA, hx⟩ => ⟨b, o, hA, fun j u hu => ⟨hx j u hu, stab_none _ _⟩⟩, ?_, fun h0 => by rw [List.eq_nil_of_length_eq_zero h0]; rfl, trivial⟩
    refine RepsL.of_get (by simp [hl]) fun j a u ha hu => ?_
    rw [List.getElem?_map] at ha
    cases hj : ls[j]? with
    | none => rw [hj] at ha; cases ha
    | some m =>
      rw [hj] at ha
      simp only [Option.map_some, Option.some.injEq] at ha
      subst ha
      obtain ⟨u', h6, h7⟩ := key j m hj
      rw [h6] at hu; cases hu
      exact hf h7
  · obtain ⟨j, hj, rfl⟩ := List.getElem_of_mem hmem
    obtain ⟨u, _, h7⟩ := key j _ (List.getElem?_eq_getElem hj)
    exact ⟨u, h7⟩
end Go.Proofs.Ytnjkklkjlloedaa
