/- The reference of layer 8 by the abstract machine: Text. -/
import Derived.Test.YtnjkklkjlloedaaRfM
namespace Go.Proofs.Ytnjkklkjlloedaa
open Go.RowKit
set_option linter.unusedVariables false
set_option linter.unusedSimpArgs false
set_option maxRecDepth 10000
theorem refText_val (l : List UInt8) (hm : l.length ≤ 1000000) : AVal Try.prog 52 [bsA l] (bsA (textB l)) := by
  refine AVal.mkw (by simp [AV.shutL, bsA_shut]) (bsA_shut _) ?_
  refine ACalls_body Try.func52 rfl rfl ?_
  simp only [Try.ntmps52, List.length_cons, List.length_nil, Nat.reduceAdd, Nat.reduceSub, List.replicate_succ, List.replicate_zero, List.cons_append, List.nil_append]
  refine Run ?_ trivial trivial trivial trivial trivial trivial trivial trivial trivial trivial trivial trivial
  simp only [aone, AV.wk, AV.wkL, AV.wk_bvA, AV.wkL_bvA, bsA, textB, List.map_cons, List.map_nil, List.length_cons, List.length_nil, List.cons_append, List.nil_append, Nat.zero_add]
  rw [show 2 + l.length = l.length + 1 + 1 by omega, u8_mm, show ((l.length : Int) / 256) = ((l.length / 256 : Nat) : Int) by omega, u8_mod]
end Go.Proofs.Ytnjkklkjlloedaa
