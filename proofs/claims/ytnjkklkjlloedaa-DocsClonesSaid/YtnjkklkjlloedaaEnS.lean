/- Rows of entries: how they come in. -/
import Derived.Test.YtnjkklkjlloedaaEnO
namespace Go.Proofs.Ytnjkklkjlloedaa
open Go.RowKit
set_option linter.unusedVariables false
set_option linter.unusedSimpArgs false
/-- Entries in a row. -/
def enCs (l : List En) : List AV := l.flatMap enC
abbrev ensA (l : List En) : AV := .sl .none (enCs l) l.length
theorem open_entries : Opens Try.prog 50 (RSlice 9 REn) := opens_slice Try.underlying50 (by kernel_rfl) (by omega) open_entry
theorem REntries.repsA {w : World} {v : Value} {l : List En} (h : RSlice 9 REn w [v] l) : Reps MM.none w (ensA l) v ∧ l.length ≤ 9223372036854775807 ∧ ∀ e ∈ l, e.wraps.length ≤ 9223372036854775807 := by
  obtain ⟨h1, h2⟩ := RSlice.repsA h enC (fun cs m g => g.reps)
  refine ⟨h1, h2, fun e he => ?_⟩
  obtain ⟨c, g⟩ := RSlice.each h e he
  exact g.wraps
theorem enCs_len : ∀ l : List En, (enCs l).length = l.length * 9
  | [] => rfl
  | e :: l => by have := enCs_len l; simp only [enCs] at this; simp only [enCs, List.flatMap_cons, List.length_append, enC, List.length_cons, List.length_nil, this]; omega
theorem enCs_drop : ∀ (l : List En) (k : Nat), (enCs l).drop (k * 9) = enCs (l.drop k)
  | l, 0 => by simp
  | [], k + 1 => by simp [enCs]
  | e :: l, k + 1 => by
    rw [show (k + 1) * 9 = k * 9 + 1 + 1 + 1 + 1 + 1 + 1 + 1 + 1 + 1 by omega]
    simp only [enCs, List.flatMap_cons, enC, List.cons_append, List.nil_append, List.drop_succ_cons]
    exact enCs_drop l k
theorem enCs_load {l : List En} {k : Nat} {e : En} (h : l[k]? = some e) : aload true 9 (enCs l) (k * 9) = some (enA e) := by
  obtain ⟨hk, rfl⟩ := List.getElem?_eq_some_iff.1 h
  simp only [aload, if_true]
  rw [if_pos (by rw [enCs_len]; omega), enCs_drop, List.drop_eq_getElem_cons hk]
  rfl
end Go.Proofs.Ytnjkklkjlloedaa
