/- Law 9: how entries come in. -/
import Derived.Test.YtnjkklkjlloedaaEnB
import Derived.Test.YtnjkklkjlloedaaArgA
namespace Go.Proofs.Ytnjkklkjlloedaa
open Go.RowKit
set_option linter.unusedVariables false
set_option linter.unusedSimpArgs false
theorem open_bytes1 : Opens Try.prog 27 RBytes := opens_bytes Try.underlying27 Try.underlying5 (by kernel_rfl)
abbrev RWp2 (w : World) (cs : List Value) (m : Int × List UInt8) : Prop := ∃ c0 c1, cs = [c0, c1] ∧ RInt .i64 w [c0] m.1 ∧ RBytes w [c1] m.2
theorem open_wrap2 : Opens Try.prog 106 RWp2 := opens_struct2 Try.underlying106 rfl (by kernel_rfl) (by kernel_rfl) (opens_int Try.underlying3) (opens_bytes Try.underlying27 Try.underlying5 (by kernel_rfl))
theorem open_wraps : Opens Try.prog 51 (RSlice 2 RWp2) := opens_slice Try.underlying51 (by kernel_rfl) (by omega) open_wrap2
def wpOf (m : Int × List UInt8) : Wp := ⟨m.1, m.2⟩
theorem RWraps.repsA {w : World} {v : Value} {ms : List (Int × List UInt8)} (h : RSlice 2 RWp2 w [v] ms) : Reps MM.none w (wrA (ms.map wpOf)) v ∧ (ms.map wpOf).length ≤ 9223372036854775807 ∧ ∀ x ∈ ms.map wpOf, x.box.length ≤ 9223372036854775807 := by
  obtain ⟨h1, h2⟩ := RSlice.repsA h (fun m => wpC (wpOf m)) (fun cs m ⟨c0, c1, e, g0, g1⟩ => by
    subst e
    exact RepsL.cons (RInt.repsA g0) (RBytes.one g1))
  refine ⟨?_, by simpa using h2, fun x hx => ?_⟩
  · have e : wpCs (ms.map wpOf) = ms.flatMap (fun m => wpC (wpOf m)) := by
      unfold wpCs
      rw [List.flatMap_map]
    unfold wrA
    rw [e, List.length_map]
    exact h1
  · obtain ⟨m, hm, rfl⟩ := List.mem_map.1 hx
    obtain ⟨c, c0, c1, e, g0, g1⟩ := RSlice.each h m hm
    exact RBytes.len g1
/-- An entry that came in. -/
structure REn (w : World) (cs : List Value) (e : En) : Prop where
  reps : RepsL MM.none w (enC e) cs
  name : e.name.length ≤ 9223372036854775807
  value : e.value.length ≤ 9223372036854775807
  wraps : e.wraps.length ≤ 9223372036854775807
  boxes : ∀ x ∈ e.wraps, x.box.length ≤ 9223372036854775807
theorem open_entry : Opens Try.prog 53 REn := by
  intro H enc w base spare held fuel cs x h
  obtain ⟨⟨k, wr, s, nm, vl, wh, rt, ep, ws⟩, c0, c1, c2, c3, c4, c5, c6, c7, c8, rfl, h0, h1, h2, h3, h4, h5, h6, h7, h8⟩ := opens_struct9 Try.underlying53 rfl (by kernel_rfl) (by kernel_rfl) (opens_int Try.underlying3) (opens_int Try.underlying3) (opens_int Try.underlying3) open_bytes1 open_bytes1 (opens_int Try.underlying3) (opens_int Try.underlying3) (opens_int Try.underlying3) open_wraps H enc w base spare held fuel cs x h
  obtain ⟨g1, g2, g3⟩ := RWraps.repsA h8
  exact ⟨⟨k, wr, s, nm, vl, wh, rt, ep, ws.map wpOf⟩, .cons (RInt.repsA h0) (.cons (RInt.repsA h1) (.cons (RInt.repsA h2) (.cons (RBytes.repsA h3) (.cons (RBytes.repsA h4) (.cons (RInt.repsA h5) (.cons (RInt.repsA h6) (.cons (RInt.repsA h7) (.cons g1 .nil)))))))), RBytes.len h3, RBytes.len h4, g2, g3⟩
theorem REn.agg {w : World} {cs : Array Value} {e : En} (h : REn w cs.toList e) : Reps MM.none w (enA e) (.agg cs) := by unfold Reps; exact ⟨cs, rfl, h.reps⟩
end Go.Proofs.Ytnjkklkjlloedaa
