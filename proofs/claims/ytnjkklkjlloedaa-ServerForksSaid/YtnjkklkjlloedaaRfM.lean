/- The reference of layer 8 by the abstract machine: Num. -/
import Derived.Test.YtnjkklkjlloedaaPutK
namespace Go.Proofs.Ytnjkklkjlloedaa
open Go.RowKit
set_option linter.unusedVariables false
set_option linter.unusedSimpArgs false
set_option maxRecDepth 10000
theorem u8_mm (m : Nat) : UInt8.ofNat (((m : Int) % 256 % 256).toNat) = UInt8.ofNat m := by
  rw [show ((m : Int) % 256 % 256).toNat = m % 256 by omega]
  apply UInt8.toNat_inj.1
  simp
theorem refNum_val (m : Nat) (hm : m ≤ 1000000000000000) : AVal Try.prog 51 [.int .i64 (m : Int)] (.sl .full ((numB m).map bvA) 6) := by
  refine AVal.mkRow (by simp [AV.shutL, AV.shut]) (shutL_bvA _) (by omega) ?_
  refine ACalls_body Try.func51 rfl rfl ?_
  simp only [Try.ntmps51, List.length_cons, List.length_nil, Nat.reduceAdd, Nat.reduceSub, List.replicate_succ, List.replicate_zero, List.cons_append, List.nil_append]
  refine Run ?_ trivial trivial trivial trivial trivial trivial trivial trivial trivial trivial trivial trivial
  with_reducible refine AWP_loop_n 7 ?_
  refine Run ?_ trivial trivial trivial trivial trivial trivial trivial trivial trivial trivial trivial trivial
  refine ⟨_, rfl, ?_⟩
  simp only [alook, if_true, numB, List.map_cons, List.map_nil]
  have e : ∀ k : Nat, (m : Int) / (k : Int) = ((m / k : Nat) : Int) := fun k => by rw [Int.natCast_ediv]
  have e1 : (m : Int) / 256 = ((m / 256 : Nat) : Int) := e 256
  have e2 : (m : Int) / 256 / 256 = ((m / 65536 : Nat) : Int) := by rw [Int.ediv_ediv_of_nonneg (by omega)]; exact e 65536
  have e3 : (m : Int) / 256 / 256 / 256 = ((m / 16777216 : Nat) : Int) := by omega
  have e4 : (m : Int) / 256 / 256 / 256 / 256 = ((m / 4294967296 : Nat) : Int) := by omega
  have e5 : (m : Int) / 256 / 256 / 256 / 256 / 256 = ((m / 1099511627776 : Nat) : Int) := by omega
  rw [e5, e4, e3, e2, e1]
  simp only [u8_mm]
end Go.Proofs.Ytnjkklkjlloedaa
