/- Law 9: EntryCuts. -/
import Derived.Test.YtaffpkogcpkmjaaEnW1
namespace Go.Proofs.Ytaffpkogcpkmjaa
open Go.RowKit
set_option linter.unusedVariables false
set_option linter.unusedSimpArgs false
set_option maxRecDepth 10000
set_option maxHeartbeats 4000000 in
theorem EntryCuts_law (e : En) (cut : Int) (more : List UInt8) (hf : e.wraps.length ≤ 9223372036854775807) : ACalls Try.prog 6 [enA e, .int .i64 cut, bsA more] ⟨[], [], 0⟩ (fun rv _ => rv = .bool true) := by
  refine ACalls_body Try.func6 rfl rfl ?_
  simp only [Try.ntmps6, List.length_cons, List.length_nil, Nat.reduceAdd, Nat.reduceSub, List.replicate_succ, List.replicate_zero, List.cons_append, List.nil_append]
  have hS := smallE_val e hf
  by_cases ga : SmallE e
  · rw [decide_eq_true ga] at hS
    by_cases gc : cut < 0
    · refine Run ?_ trivial trivial @anchor9_val trivial trivial trivial trivial trivial trivial trivial trivial trivial
      rfl
    by_cases gm : 100 < more.length
    · refine Run ?_ trivial trivial @anchor9_val trivial trivial trivial trivial trivial trivial trivial trivial trivial
      rfl
    have hE := enencode_val e ga.mid
    obtain ⟨l, x, e1, e2⟩ := enR_form e
    rw [e1] at hE
    by_cases h1 : x = 0
    · subst h1
      obtain ⟨o1, rfl⟩ := e2 rfl
      have hlen : 18 ≤ (enB e).length := by
        rw [enB_ex]
        simp only [List.length_append, numB_length]
        omega
      have hmax := enB_len o1
      have hj0 : 0 ≤ cut % ((enB e).length : Int) := Int.emod_nonneg _ (by omega)
      have hj1 : cut % ((enB e).length : Int) < (enB e).length := Int.emod_lt_of_pos _ (by omega)
      generalize hj : cut % ((enB e).length : Int) = j at hj0 hj1
      have hcut : ¬ enOk ((enB e).take j.toNat) := en_cut o1 (List.take_append_drop j.toNat (enB e)).symm (fun h => by
        have := congrArg List.length h
        simp at this
        omega)
      have hD1 : AVal Try.prog 21 [.sl .none (((enB e).take (cut % ((enB e).length : Int)).toNat).map bvA) (cut % ((enB e).length : Int)).toNat] (.tup [enA zeroE, .int .i64 10]) := by
        rw [hj, bsA_eq (show ((enB e).take j.toNat).length = j.toNat by rw [List.length_take]; omega), ← enD_no hcut]
        exact endecode_val _ (by rw [List.length_take]; omega)
      have hD2 : AVal Try.prog 21 [.sl .none ((enB e).map bvA ++ more.map bvA) (0 + (enB e).length + more.length)] (enD (enB e ++ more)) := by
        rw [← List.map_append, bsA_eq (show (enB e ++ more).length = 0 + (enB e).length + more.length by rw [List.length_append]; omega)]
        exact endecode_val _ (by rw [List.length_append]; omega)
      by_cases hm : more = []
      · subst hm
        rw [List.append_nil, enD_ok o1] at hD2
        refine Run ?_ trivial trivial @anchor9_val trivial trivial trivial trivial trivial trivial trivial trivial trivial
        rfl
      · rw [enD_no (fun h => hm ((en_more o1 more).1 h))] at hD2
        have hm1 : ¬ (more.length : Int) = 0 := by
          have : more.length ≠ 0 := fun h => hm (List.eq_nil_of_length_eq_zero h)
          omega
        refine Run ?_ trivial trivial @anchor9_val trivial trivial trivial trivial trivial trivial trivial trivial trivial
        rfl
    · refine Run ?_ trivial trivial @anchor9_val trivial trivial trivial trivial trivial trivial trivial trivial trivial
      rfl
  · rw [decide_eq_false ga] at hS
    refine Run ?_ trivial trivial @anchor9_val trivial trivial trivial trivial trivial trivial trivial trivial trivial
    rfl
theorem EntryCuts_walk (w : World) (cs : Array Value) (e : En) (hf : REn w cs.toList e) (n : Int) (hn : (Lit.int .i64 n).wf = true) (A : Option Addr) (m c : Nat) (more : List UInt8) (hm : RBytes w [.slice A m c] more) : Calls Try.prog 6 #[.agg cs, .int .i64 n, .slice A m c] w (Tells w true) := (EntryCuts_law e n more hf.wraps).tells (.cons hf.agg (.cons Reps_int (.one hm.repsA)))
end Go.Proofs.Ytaffpkogcpkmjaa
