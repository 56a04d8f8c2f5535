/- Law 17: how frames come in. -/
import Derived.Test.YtnjkklkjlloedaaFrA
import Derived.Test.YtnjkklkjlloedaaArgA
namespace Go.Proofs.Ytnjkklkjlloedaa
open Go.RowKit
set_option linter.unusedVariables false
set_option linter.unusedSimpArgs false
theorem RLinks.repsA {w : World} {v : Value} {ls : List (List UInt8)} (h : RSlice 1 RBytes w [v] ls) : Reps MM.none w (lkA ls) v ∧ ls.length ≤ 9223372036854775807 := by
  obtain ⟨A, c, cells, h1, h2, h3⟩ := h
  simp only [List.cons.injEq, and_true] at h1
  subst h1
  have hc := h2.cap
  have hm := h2.max
  refine ⟨?_, by simp only [maxLen] at hm; omega⟩
  have hl := h2.len
  rw [Nat.mul_one] at hl
  unfold Reps
  refine ⟨A, c, cells, rfl, hc, hm, h2.nil, h2.cells.imp (fun h => h) fun ⟨b, o, hA, hx⟩ => ⟨b, o, hA, fun j u hu => ⟨hx j u hu, stab_none _ _⟩⟩, ?_, fun h0 => by rw [List.eq_nil_of_length_eq_zero h0]; rfl, trivial⟩
  refine RepsL.of_get (by simp [hl]) fun j a u ha hu => ?_
  rw [List.getElem?_map] at ha
  cases hj : ls[j]? with
  | none => rw [hj] at ha; cases ha
  | some m =>
    rw [hj] at ha
    simp only [Option.map_some, Option.some.injEq] at ha
    subst ha
    have h4 := h3 j m hj
    have h5 : (cells.drop (j * 1)).take 1 = [u] := by
      obtain ⟨hlt, rfl⟩ := List.getElem?_eq_some_iff.1 hu
      rw [Nat.mul_one, List.drop_eq_getElem_cons hlt]
      rfl
    rw [h5] at h4
    exact h4.repsA
theorem open_bytes1 : Opens Try.prog 27 RBytes := opens_bytes Try.underlying27 Try.underlying5 (by kernel_rfl)
/-- A frame that came in. -/
def RFr (w : World) (cs : List Value) (f : Fr) : Prop := RepsL MM.none w [.int .i64 f.kind, .int .i64 f.coll, .int .i64 f.idx, lkA f.links, bsA f.sum] cs ∧ f.links.length ≤ 9223372036854775807 ∧ f.sum.length ≤ 9223372036854775807
theorem open_links : Opens Try.prog 26 (RSlice 1 RBytes) := opens_slice Try.underlying26 (by kernel_rfl) (by omega) (opens_bytes Try.underlying27 Try.underlying5 (by kernel_rfl))
theorem open_frame : Opens Try.prog 31 RFr := by
  intro H enc w base spare held fuel cs x h
  obtain ⟨⟨k, c, i, ls, s⟩, c0, c1, c2, c3, c4, rfl, h0, h1, h2, h3, h4⟩ := opens_struct5 Try.underlying31 rfl (by kernel_rfl) (by kernel_rfl) (opens_int Try.underlying3) (opens_int Try.underlying3) (opens_int Try.underlying3) open_links (opens_bytes Try.underlying27 Try.underlying5 (by kernel_rfl)) H enc w base spare held fuel cs x h
  obtain ⟨e0, _⟩ := h0
  obtain ⟨e1, _⟩ := h1
  obtain ⟨e2, _⟩ := h2
  simp only [List.cons.injEq, and_true] at e0 e1 e2
  subst e0 e1 e2
  have h3' := RLinks.repsA h3
  exact ⟨⟨k, c, i, ls, s⟩, .cons Reps_int (.cons Reps_int (.cons Reps_int (.cons h3'.1 (.cons (RBytes.repsA h4) .nil)))), h3'.2, RBytes.len h4⟩
theorem RFr.reps {w : World} {cs : Array Value} {f : Fr} (h : RFr w cs.toList f) : Reps MM.none w (frA f) (.agg cs) := by unfold Reps; exact ⟨cs, rfl, h.1⟩
end Go.Proofs.Ytnjkklkjlloedaa
