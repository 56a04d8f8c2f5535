/- Law 9: EntryEncodes, EntryDecodes, EntrySame. -/
import Derived.Test.YtaffpkogcpkmjaaEnZ0
namespace Go.Proofs.Ytaffpkogcpkmjaa
open Go.RowKit
set_option linter.unusedVariables false
set_option linter.unusedSimpArgs false
set_option maxRecDepth 10000
set_option maxHeartbeats 4000000 in
theorem EntryEncodes_law (e : En) (hm : e.wraps.length ≤ 9223372036854775807) : ACalls Try.prog 3 [enA e] ⟨[], [], 0⟩ (fun rv _ => rv = .bool true) := by
  refine ACalls_body Try.func3 rfl rfl ?_
  simp only [Try.ntmps3, List.length_cons, List.length_nil, Nat.reduceAdd, Nat.reduceSub, List.replicate_succ, List.replicate_zero, List.cons_append, List.nil_append]
  have hS := smallE_val e hm
  by_cases hsm : SmallE e
  · rw [decide_eq_true hsm] at hS
    have hmid := hsm.mid
    have hM := madeE_val e (by have := hsm.2.2.2; omega)
    have hE := enencode_val e hmid
    have hR := enright_val e hmid
    have hRR := refRight_val e hm
    by_cases hok : EnOk e
    · rw [decide_eq_true hok] at hR hRR
      have hB := refEBytes_val e hok
      rw [enR_ok hok] at hE
      have hD := endecode_val (enB e) (by have := enB_len hok; omega)
      rw [enD_ok hok] at hD
      have hSm := refESame_val e e (by have := hsm.2.2.2; omega)
      rw [En.same_self] at hSm
      have he : (enB e == enB e) = true := by simp
      refine Run ?_ trivial trivial @anchor9_val trivial trivial trivial trivial trivial trivial trivial trivial trivial
      rfl
    · rw [decide_eq_false hok] at hR hRR
      rw [enR_no hok] at hE
      refine Run ?_ trivial trivial @anchor9_val trivial trivial trivial trivial trivial trivial trivial trivial trivial
      rfl
  · rw [decide_eq_false hsm] at hS
    refine Run ?_ trivial trivial @anchor9_val trivial trivial trivial trivial trivial trivial trivial trivial trivial
    rfl
theorem EntryEncodes_walk (w : World) (cs : Array Value) (e : En) (hf : REn w cs.toList e) : Calls Try.prog 3 #[.agg cs] w (Tells w true) := (EntryEncodes_law e hf.wraps).tells (.one hf.agg)
set_option maxHeartbeats 4000000 in
theorem EntryDecodes_law (b : List UInt8) : ACalls Try.prog 4 [bsA b] ⟨[], [], 0⟩ (fun rv _ => rv = .bool true) := by
  refine ACalls_body Try.func4 rfl rfl ?_
  simp only [Try.ntmps4, List.length_cons, List.length_nil, Nat.reduceAdd, Nat.reduceSub, List.replicate_succ, List.replicate_zero, List.cons_append, List.nil_append]
  by_cases hsm : 2000 < b.length
  · refine Run ?_ trivial trivial @anchor9_val trivial trivial trivial trivial trivial trivial trivial trivial trivial
    rfl
  have hD := endecode_val b (by omega)
  have hR := refERead_val b (by omega)
  unfold enD at hD
  unfold enRd at hR
  by_cases hok : enOk b
  · rw [if_pos hok] at hD hR
    have hi := en_inv hok
    have hM := madeE_val (enF b).1 (by have := hok.2.2.fields.2.2.2.2.2.2.2.2.2; omega)
    have hE := enencode_val (enF b).1 (enF_mid b)
    rw [enR_ok hok.2.2, hi] at hE
    have hS2 := refESame_val (enF b).1 (enF b).1 (by have := (enF_mid b).wraps; omega)
    rw [En.same_self] at hS2
    have he : (b == b) = true := by simp
    refine Run ?_ trivial trivial @anchor9_val trivial trivial trivial trivial trivial trivial trivial trivial trivial
    rfl
  · rw [if_neg hok] at hD hR
    have hM := madeE_val zeroE (by simp [zeroE])
    have hS2 := refESame_val zeroE zeroE (by simp [zeroE])
    rw [En.same_self] at hS2
    refine Run ?_ trivial trivial @anchor9_val trivial trivial trivial trivial trivial trivial trivial trivial trivial
    rfl
theorem EntryDecodes_walk (w : World) (A : Option Addr) (n c : Nat) (b : List UInt8) (hb : RBytes w [.slice A n c] b) : Calls Try.prog 4 #[.slice A n c] w (Tells w true) := (EntryDecodes_law b).tells (.one hb.repsA)
theorem enR_form (e : En) : ∃ l x, enR e = .tup [bsA l, .int .i64 x] ∧ (x = 0 → EnOk e ∧ l = enB e) := by
  unfold enR
  split
  · rename_i h
    exact ⟨_, 0, rfl, fun _ => ⟨h, rfl⟩⟩
  · exact ⟨[], 10, rfl, fun h => by cases h⟩
set_option maxHeartbeats 4000000 in
theorem EntrySame_law (a b : En) (ha : a.wraps.length ≤ 9223372036854775807) (hb : b.wraps.length ≤ 9223372036854775807) : ACalls Try.prog 5 [enA a, enA b] ⟨[], [], 0⟩ (fun rv _ => rv = .bool true) := by
  refine ACalls_body Try.func5 rfl rfl ?_
  simp only [Try.ntmps5, List.length_cons, List.length_nil, Nat.reduceAdd, Nat.reduceSub, List.replicate_succ, List.replicate_zero, List.cons_append, List.nil_append]
  have hSa := smallE_val a ha
  have hSb := smallE_val b hb
  by_cases ga : SmallE a
  · rw [decide_eq_true ga] at hSa
    by_cases gb : SmallE b
    · rw [decide_eq_true gb] at hSb
      have hMa := madeE_val a (by have := ga.2.2.2; omega)
      have hMb := madeE_val b (by have := gb.2.2.2; omega)
      have hS := ensame_val a b ga.mid
      have hRS := refESame_val a b (by have := ga.2.2.2; omega)
      have hEa := enencode_val a ga.mid
      have hEb := enencode_val b gb.mid
      obtain ⟨la, ea, e1, e2⟩ := enR_form a
      obtain ⟨lb, eb, e3, e4⟩ := enR_form b
      rw [e1] at hEa
      rw [e3] at hEb
      by_cases h1 : ea = 0
      · subst h1
        by_cases h2 : eb = 0
        · subst h2
          obtain ⟨o1, rfl⟩ := e2 rfl
          obtain ⟨o2, rfl⟩ := e4 rfl
          have heq : (enB a == enB b) = a.same b := by
            rw [Bool.eq_iff_iff, beq_iff_eq, En.same_iff, enB_inj o1 o2]
          cases hs : a.same b with
          | true =>
            rw [hs] at hS hRS heq
            refine Run ?_ trivial trivial @anchor9_val trivial trivial trivial trivial trivial trivial trivial trivial trivial
            rfl
          | false =>
            rw [hs] at hS hRS heq
            refine Run ?_ trivial trivial @anchor9_val trivial trivial trivial trivial trivial trivial trivial trivial trivial
            rfl
        · cases hs : a.same b with
          | true =>
            rw [hs] at hS hRS
            refine Run ?_ trivial trivial @anchor9_val trivial trivial trivial trivial trivial trivial trivial trivial trivial
            rfl
          | false =>
            rw [hs] at hS hRS
            refine Run ?_ trivial trivial @anchor9_val trivial trivial trivial trivial trivial trivial trivial trivial trivial
            rfl
      · cases hs : a.same b with
        | true =>
          rw [hs] at hS hRS
          refine Run ?_ trivial trivial @anchor9_val trivial trivial trivial trivial trivial trivial trivial trivial trivial
          rfl
        | false =>
          rw [hs] at hS hRS
          refine Run ?_ trivial trivial @anchor9_val trivial trivial trivial trivial trivial trivial trivial trivial trivial
          rfl
    · rw [decide_eq_false gb] at hSb
      refine Run ?_ trivial trivial @anchor9_val trivial trivial trivial trivial trivial trivial trivial trivial trivial
      rfl
  · rw [decide_eq_false ga] at hSa
    refine Run ?_ trivial trivial @anchor9_val trivial trivial trivial trivial trivial trivial trivial trivial trivial
    rfl
theorem EntrySame_walk (w : World) (cs : Array Value) (e : En) (hf : REn w cs.toList e) (cs2 : Array Value) (e2 : En) (hf2 : REn w cs2.toList e2) : Calls Try.prog 5 #[.agg cs, .agg cs2] w (Tells w true) := (EntrySame_law e e2 hf.wraps hf2.wraps).tells (.cons hf.agg (.one hf2.agg))
end Go.Proofs.Ytaffpkogcpkmjaa
