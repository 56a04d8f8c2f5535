/- Law 10: how policies, rows of entries and of numbers come in. -/
import Derived.Test.YtaffpkogcpkmjaaPoG
import Derived.Test.YtaffpkogcpkmjaaEnO
namespace Go.Proofs.Ytaffpkogcpkmjaa
open Go.RowKit
set_option linter.unusedVariables false
set_option linter.unusedSimpArgs false
abbrev RMb (w : World) (cs : List Value) (m : Int × Int) : Prop := ∃ c0 c1, cs = [c0, c1] ∧ RInt .i64 w [c0] m.1 ∧ RInt .i64 w [c1] m.2
theorem open_member : Opens Try.prog 64 RMb := opens_struct2 Try.underlying64 rfl (by kernel_rfl) (by kernel_rfl) (opens_int Try.underlying3) (opens_int Try.underlying3)
theorem open_members : Opens Try.prog 48 (RSlice 2 RMb) := opens_slice Try.underlying48 (by kernel_rfl) (by omega) open_member
def mbOf (m : Int × Int) : Mb := ⟨m.1, m.2⟩
theorem RMembers.repsA {w : World} {v : Value} {ms : List (Int × Int)} (h : RSlice 2 RMb w [v] ms) : Reps MM.none w (mbA (ms.map mbOf)) v ∧ (ms.map mbOf).length ≤ 9223372036854775807 := by
  obtain ⟨h1, h2⟩ := RSlice.repsA h (fun m => mbC (mbOf m)) (fun cs m ⟨c0, c1, e, g0, g1⟩ => by
    subst e
    exact RepsL.cons (RInt.repsA g0) (RInt.one g1))
  refine ⟨?_, by simpa using h2⟩
  have e : mbCs (ms.map mbOf) = ms.flatMap (fun m => mbC (mbOf m)) := by
    unfold mbCs
    rw [List.flatMap_map]
  unfold mbA
  rw [e, List.length_map]
  exact h1
/-- A policy that came in. -/
structure RPo (w : World) (cs : List Value) (p : Po) : Prop where
  reps : RepsL MM.none w (poC p) cs
  len : p.mem.length ≤ 9223372036854775807
theorem open_policy : Opens Try.prog 50 RPo := by
  intro H enc w base spare held fuel cs x h
  obtain ⟨⟨f, ep, ms⟩, c0, c1, c2, rfl, h0, h1, h2⟩ := opens_struct3 Try.underlying50 rfl (by kernel_rfl) (by kernel_rfl) (opens_int Try.underlying3) (opens_int Try.underlying3) open_members H enc w base spare held fuel cs x h
  obtain ⟨g1, g2⟩ := RMembers.repsA h2
  exact ⟨⟨f, ep, ms.map mbOf⟩, .cons (RInt.repsA h0) (.cons (RInt.repsA h1) (.cons g1 .nil)), g2⟩
theorem RPo.agg {w : World} {cs : Array Value} {p : Po} (h : RPo w cs.toList p) : Reps MM.none w (poA p) (.agg cs) := by unfold Reps; exact ⟨cs, rfl, h.reps⟩
/-- Entries in a row. -/
def enCs (l : List En) : List AV := l.flatMap enC
abbrev ensA (l : List En) : AV := .sl .none (enCs l) l.length
theorem open_entries : Opens Try.prog 47 (RSlice 9 REn) := opens_slice Try.underlying47 (by kernel_rfl) (by omega) open_entry
theorem REntries.repsA {w : World} {v : Value} {l : List En} (h : RSlice 9 REn w [v] l) : Reps MM.none w (ensA l) v ∧ l.length ≤ 9223372036854775807 ∧ ∀ e ∈ l, e.wraps.length ≤ 9223372036854775807 := by
  obtain ⟨h1, h2⟩ := RSlice.repsA h enC (fun cs m g => g.reps)
  refine ⟨h1, h2, fun e he => ?_⟩
  obtain ⟨c, g⟩ := RSlice.each h e he
  exact g.wraps
theorem open_ints : Opens Try.prog 67 (RSlice 1 (RInt .i64)) := opens_slice Try.underlying67 (by kernel_rfl) (by omega) (opens_int Try.underlying3)
theorem RInts.repsA {w : World} {v : Value} {l : List Int} (h : RSlice 1 (RInt .i64) w [v] l) : Reps MM.none w (insA l) v ∧ l.length ≤ 9223372036854775807 := by
  obtain ⟨h1, h2⟩ := RSlice.repsA h (fun n => [inA n]) (fun cs m g => RInt.one g)
  rw [flatMap_single] at h1
  exact ⟨h1, h2⟩
theorem enCs_len : ∀ l : List En, (enCs l).length = l.length * 9
  | [] => rfl
  | e :: l => by have := enCs_len l; simp only [enCs] at this; simp only [enCs, List.flatMap_cons, List.length_append, enC, List.length_cons, List.length_nil, this]; omega
theorem enCs_drop : ∀ (l : List En) (k : Nat), (enCs l).drop (k * 9) = enCs (l.drop k)
  | l, 0 => by simp
  | [], k + 1 => by simp [enCs]
  | e :: l, k + 1 => by
    rw [show (k + 1) * 9 = k * 9 + 1 + 1 + 1 + 1 + 1 + 1 + 1 + 1 + 1 by omega]
    simp only [enCs, List.flatMap_cons, enC, List.cons_append, List.nil_append, List.drop_succ_cons]
    exact enCs_drop l k
theorem enCs_load {l : List En} {k : Nat} {e : En} (h : l[k]? = some e) : aload true 9 (enCs l) (k * 9) = some (enA e) := by
  obtain ⟨hk, rfl⟩ := List.getElem?_eq_some_iff.1 h
  simp only [aload, if_true]
  rw [if_pos (by rw [enCs_len]; omega), enCs_drop, List.drop_eq_getElem_cons hk]
  rfl
end Go.Proofs.Ytaffpkogcpkmjaa
