/- The anchor of mac's laws, and how arguments come in. -/
import Derived.Test.YtdekfobcdmlelaaMacU
import Derived.Test.YtdekfobcdmlelaaMacD
import Derived.Test.YtdekfobcdmlelaaArg
namespace Go.Proofs.Ytdekfobcdmlelaa
open Go.RowKit
set_option linter.unusedVariables false
set_option linter.unusedSimpArgs false
set_option maxRecDepth 10000
set_option maxHeartbeats 4000000
variable {M : MM} {w : World}

theorem RBytes.reps {v : Value} {m : List UInt8} (h : RBytes w [v] m) : Reps MM.none w (.sl .none (m.map bvA) m.length) v := by
  obtain ⟨A, c, he, hr⟩ := h
  simp only [List.cons.injEq, and_true] at he
  subst he
  exact hr.reps
theorem anchor2_val : AVal Try.prog 15 [] (.bool true) := by
  refine AVal.of_below fun M w vs hr => ?_
  unfold RepsL at hr
  subst hr
  refine (anchor2 w).mono ?_
  rintro e w' ⟨rfl, hb⟩
  exact ⟨_, rfl, fun _ _ => Reps_bool, hb⟩
theorem open_bytes1 : Opens Try.prog 22 RBytes := opens_bytes Try.underlying22 Try.underlying5 (by kernel_rfl)
end Go.Proofs.Ytdekfobcdmlelaa
