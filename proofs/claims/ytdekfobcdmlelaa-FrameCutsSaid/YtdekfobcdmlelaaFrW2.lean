/- Law 17: FrameSame, FrameCuts, FrameKinds. -/
import Derived.Test.YtdekfobcdmlelaaFrW1
namespace Go.Proofs.Ytdekfobcdmlelaa
open Go.RowKit
set_option linter.unusedVariables false
set_option linter.unusedSimpArgs false
set_option maxRecDepth 10000
theorem encR_form (f : Fr) : ∃ l e, encR f = .tup [bsA l, .int .i64 e] ∧ (e = 0 → FrOk f ∧ l = frB f) := by
  unfold encR
  split
  · rename_i h
    split
    · exact ⟨[], 11, rfl, fun h => by cases h⟩
    · exact ⟨_, 0, rfl, fun _ => ⟨h, rfl⟩⟩
  · exact ⟨[], 10, rfl, fun h => by cases h⟩
set_option maxHeartbeats 4000000 in
theorem FrameSame_law (a b : Fr) (ha : a.links.length ≤ 9223372036854775807) (hb : b.links.length ≤ 9223372036854775807) : ACalls Try.prog 13 [frA a, frA b] ⟨[], [], 0⟩ (fun rv _ => rv = .bool true) := by
  refine ACalls_body Try.func13 rfl rfl ?_
  simp only [Try.ntmps13, List.length_cons, List.length_nil, Nat.reduceAdd, Nat.reduceSub, List.replicate_succ, List.replicate_zero, List.cons_append, List.nil_append]
  have hSa := small17_val a ha
  have hSb := small17_val b hb
  by_cases ga : SmallF a
  · rw [decide_eq_true ga] at hSa
    by_cases gb : SmallF b
    · rw [decide_eq_true gb] at hSb
      have ha2 : a.links.length ≤ 1000000 := by have := ga.2.1; omega
      have hb2 : b.links.length ≤ 1000000 := by have := gb.2.1; omega
      have hS := same_val a b ha2 (by have := ga.2.2; omega) (fun x hx => by have := ga.1 x hx; omega)
      have hRS := refSame_val a b ha2
      have hEa := encode_val a ha2
      have hEb := encode_val b hb2
      obtain ⟨la, ea, e1, e2⟩ := encR_form a
      obtain ⟨lb, eb, e3, e4⟩ := encR_form b
      rw [e1] at hEa
      rw [e3] at hEb
      by_cases h1 : ea = 0
      · subst h1
        by_cases h2 : eb = 0
        · subst h2
          obtain ⟨o1, rfl⟩ := e2 rfl
          obtain ⟨o2, rfl⟩ := e4 rfl
          have heq : (frB a == frB b) = a.same b := by
            rw [Bool.eq_iff_iff, beq_iff_eq, Fr.same_iff, frB_inj o1 o2]
          cases hs : a.same b with
          | true =>
            rw [hs] at hS hRS heq
            unfold frA at *
            refine Run ?_ trivial trivial @anchor17_val trivial trivial trivial trivial trivial trivial trivial trivial trivial
            rfl
          | false =>
            rw [hs] at hS hRS heq
            unfold frA at *
            refine Run ?_ trivial trivial @anchor17_val trivial trivial trivial trivial trivial trivial trivial trivial trivial
            rfl
        · cases hs : a.same b with
          | true =>
            rw [hs] at hS hRS
            unfold frA at *
            refine Run ?_ trivial trivial @anchor17_val trivial trivial trivial trivial trivial trivial trivial trivial trivial
            rfl
          | false =>
            rw [hs] at hS hRS
            unfold frA at *
            refine Run ?_ trivial trivial @anchor17_val trivial trivial trivial trivial trivial trivial trivial trivial trivial
            rfl
      · cases hs : a.same b with
        | true =>
          rw [hs] at hS hRS
          unfold frA at *
          refine Run ?_ trivial trivial @anchor17_val trivial trivial trivial trivial trivial trivial trivial trivial trivial
          rfl
        | false =>
          rw [hs] at hS hRS
          unfold frA at *
          refine Run ?_ trivial trivial @anchor17_val trivial trivial trivial trivial trivial trivial trivial trivial trivial
          rfl
    · rw [decide_eq_false gb] at hSb
      unfold frA at *
      refine Run ?_ trivial trivial @anchor17_val trivial trivial trivial trivial trivial trivial trivial trivial trivial
      rfl
  · rw [decide_eq_false ga] at hSa
    unfold frA at *
    refine Run ?_ trivial trivial @anchor17_val trivial trivial trivial trivial trivial trivial trivial trivial trivial
    rfl
theorem FrameSame_walk (w : World) (cs : Array Value) (f : Fr) (hf : RFr w cs.toList f) (cs2 : Array Value) (f2 : Fr) (hf2 : RFr w cs2.toList f2) : Calls Try.prog 13 #[.agg cs, .agg cs2] w (Tells w true) := (FrameSame_law f f2 hf.2.1 hf2.2.1).tells (.cons hf.reps (.one hf2.reps))
set_option maxHeartbeats 4000000 in
theorem FrameCuts_law (f : Fr) (cut : Int) (more : List UInt8) (hf : f.links.length ≤ 9223372036854775807) : ACalls Try.prog 11 [frA f, .int .i64 cut, bsA more] ⟨[], [], 0⟩ (fun rv _ => rv = .bool true) := by
  refine ACalls_body Try.func11 rfl rfl ?_
  simp only [Try.ntmps11, List.length_cons, List.length_nil, Nat.reduceAdd, Nat.reduceSub, List.replicate_succ, List.replicate_zero, List.cons_append, List.nil_append]
  have hS := small17_val f hf
  by_cases ga : SmallF f
  · rw [decide_eq_true ga] at hS
    by_cases gc : cut < 0
    · unfold frA at *
      refine Run ?_ trivial trivial @anchor17_val trivial trivial trivial trivial trivial trivial trivial trivial trivial
      rfl
    by_cases gm : 100 < more.length
    · unfold frA at *
      refine Run ?_ trivial trivial @anchor17_val trivial trivial trivial trivial trivial trivial trivial trivial trivial
      rfl
    have ha2 : f.links.length ≤ 1000000 := by have := ga.2.1; omega
    have hE := encode_val f ha2
    obtain ⟨l, e, e1, e2⟩ := encR_form f
    rw [e1] at hE
    by_cases h1 : e = 0
    · subst h1
      obtain ⟨o1, rfl⟩ := e2 rfl
      have hlen : 26 ≤ (frB f).length := by
        rw [frB_eq]
        simp only [List.length_append, numB_length, textB, List.length_cons]
        omega
      by_cases h2 : 30000 < (frB f).length
      · unfold frA at *
        refine Run ?_ trivial trivial @anchor17_val trivial trivial trivial trivial trivial trivial trivial trivial trivial
        rfl
      have hj0 : 0 ≤ cut % ((frB f).length : Int) := Int.emod_nonneg _ (by omega)
      have hj1 : cut % ((frB f).length : Int) < (frB f).length := Int.emod_lt_of_pos _ (by omega)
      generalize hj : cut % ((frB f).length : Int) = j at hj0 hj1
      have hcut : ¬ decOk ((frB f).take j.toNat) := dec_cut o1 (List.take_append_drop j.toNat (frB f)).symm (fun h => by
        have := congrArg List.length h
        simp at this
        omega)
      have hD1 : AVal Try.prog 29 [.sl .none (((frB f).take (cut % ((frB f).length : Int)).toNat).map bvA) (cut % ((frB f).length : Int)).toNat] (.tup [frA zeroF, .int .i64 10]) := by
        rw [hj, bsA_eq (show ((frB f).take j.toNat).length = j.toNat by rw [List.length_take]; omega), ← decR_no hcut (by rw [List.length_take]; omega)]
        exact decode_val _ (by rw [List.length_take]; omega)
      have hD2 : AVal Try.prog 29 [.sl .none ((frB f).map bvA ++ more.map bvA) (0 + (frB f).length + more.length)] (decR (frB f ++ more)) := by
        rw [← List.map_append, bsA_eq (show (frB f ++ more).length = 0 + (frB f).length + more.length by rw [List.length_append]; omega)]
        exact decode_val _ (by rw [List.length_append]; omega)
      by_cases hm : more = []
      · subst hm
        rw [List.append_nil, decR_ok o1 (by omega)] at hD2
        unfold frA at *
        refine Run ?_ trivial trivial @anchor17_val trivial trivial trivial trivial trivial trivial trivial trivial trivial
        rfl
      · rw [decR_no (fun h => hm ((dec_more o1 more).1 h)) (by rw [List.length_append]; omega)] at hD2
        have hm1 : ¬ (more.length : Int) = 0 := by
          have : more.length ≠ 0 := fun h => hm (List.eq_nil_of_length_eq_zero h)
          omega
        unfold frA at *
        refine Run ?_ trivial trivial @anchor17_val trivial trivial trivial trivial trivial trivial trivial trivial trivial
        rfl
    · unfold frA at *
      refine Run ?_ trivial trivial @anchor17_val trivial trivial trivial trivial trivial trivial trivial trivial trivial
      rfl
  · rw [decide_eq_false ga] at hS
    unfold frA at *
    refine Run ?_ trivial trivial @anchor17_val trivial trivial trivial trivial trivial trivial trivial trivial trivial
    rfl
theorem FrameCuts_walk (w : World) (cs : Array Value) (f : Fr) (hf : RFr w cs.toList f) (n : Int) (hn : (Lit.int .i64 n).wf = true) (A : Option Addr) (m c : Nat) (more : List UInt8) (hm : RBytes w [.slice A m c] more) : Calls Try.prog 11 #[.agg cs, .int .i64 n, .slice A m c] w (Tells w true) := (FrameCuts_law f n more hf.2.1).tells (.cons hf.reps (.cons Reps_int (.one hm.repsA)))
end Go.Proofs.Ytdekfobcdmlelaa
