/- policy: First; the anchor of law 10. -/
import Derived.Test.YtaffpkogcpkmjaaPoP
namespace Go.Proofs.Ytaffpkogcpkmjaa
open Go.RowKit
set_option linter.unusedVariables false
set_option linter.unusedSimpArgs false
set_option maxRecDepth 10000
def p1 (f : Int) : Po := ⟨f, 0, [⟨f, 7⟩]⟩
theorem p1_ok (f : Int) : PoOk (p1 f) ↔ 1 ≤ f ∧ f ≤ 16 := by
  constructor
  · intro h; exact h.founder
  · rintro ⟨h1, h2⟩
    refine ⟨(MbOk_iff _).2 ⟨by show (0 : Int) < f; omega, h2, (show (1 : Int) ≤ 7 by decide), (show (7 : Int) ≤ 7 by decide), trivial⟩, (show (0 : Int) ≤ 0 by decide), (show (0 : Int) ≤ 16 by decide), ?_⟩
    simp [p1, rightsOf]
def firstR (f : Int) : AV := if 1 ≤ f ∧ f ≤ 16 then .tup [poA (p1 f), .int .i64 0] else .tup [poA ⟨0, 0, []⟩, .int .i64 10]
theorem first_val (f : Int) : AVal Try.prog 27 [.int .i64 f] (firstR f) := by
  unfold firstR
  have hR : AVal Try.prog 34 [.agg [.int .i64 f, .int .i64 0, .sl .none [.int .i64 f, .int .i64 7] 1]] (.bool (decide (PoOk (p1 f)))) := poright_val (p1 f) (by simp [p1])
  by_cases h : 1 ≤ f ∧ f ≤ 16
  · rw [if_pos h]
    rw [decide_eq_true ((p1_ok f).2 h)] at hR
    refine AVal.mkw (by simp [AV.shutL, AV.shut]) (by simp [AV.shut, AV.shutL, p1, mbCs, mbC]) ?_
    refine ACalls_body Try.func27 rfl rfl ?_
    simp only [Try.ntmps27, List.length_cons, List.length_nil, Nat.reduceAdd, Nat.reduceSub, List.replicate_succ, List.replicate_zero, List.cons_append, List.nil_append]
    refine Run ?_ trivial trivial trivial trivial trivial trivial trivial trivial trivial trivial trivial trivial
    simp [aone, AV.wk, AV.wkL, p1, mbCs, mbC]
  · rw [if_neg h]
    rw [decide_eq_false (fun g => h ((p1_ok f).1 g))] at hR
    refine AVal.mkw (by simp [AV.shutL, AV.shut]) (by simp [AV.shut, AV.shutL, mbCs]) ?_
    refine ACalls_body Try.func27 rfl rfl ?_
    simp only [Try.ntmps27, List.length_cons, List.length_nil, Nat.reduceAdd, Nat.reduceSub, List.replicate_succ, List.replicate_zero, List.cons_append, List.nil_append]
    refine Run ?_ trivial trivial trivial trivial trivial trivial trivial trivial trivial trivial trivial trivial
    simp [aone, AV.wk, AV.wkL, mbCs]
def ePut : En := ⟨1, 2, 1, [97], [], 0, 0, 0, []⟩
def eG1 : En := ⟨3, 1, 1, [], [], 2, 2, 0, []⟩
def eG2 : En := ⟨3, 1, 2, [], [], 2, 1, 0, []⟩
def p2 : Po := ⟨1, 0, [⟨1, 7⟩, ⟨2, 2⟩]⟩
def p3 : Po := ⟨1, 0, [⟨1, 7⟩, ⟨2, 1⟩]⟩
theorem ePut_mid : ePut.Mid := ⟨by decide, by decide, by decide, by simp [ePut]⟩
theorem eG1_mid : eG1.Mid := ⟨by decide, by decide, by decide, by simp [eG1]⟩
theorem eG2_mid : eG2.Mid := ⟨by decide, by decide, by decide, by simp [eG2]⟩
theorem m1 : mayN (p1 1) ePut = 30 := by decide +kernel
theorem m2 : mayN p2 ePut = 0 := by decide +kernel
theorem m3 : mayN p3 ePut = 30 := by decide +kernel
theorem m4 : mayN (p1 1) eG1 = 0 := by decide +kernel
theorem m5 : mayN p2 eG2 = 0 := by decide +kernel
theorem a1 : poApp (p1 1) eG1 = p2 := by decide +kernel
theorem a2 : poApp p2 eG2 = p3 := by decide +kernel
theorem a3 : MbOk p3.mem := by decide +kernel
abbrev eA (k w s : Int) (nm : AV) (who r : Int) : AV := .agg [.int .i64 k, .int .i64 w, .int .i64 s, nm, .sl .none [] 0, .int .i64 who, .int .i64 r, .int .i64 0, .sl .none [] 0]
set_option maxHeartbeats 4000000 in
theorem anchor10_val : AVal Try.prog 26 [] (.bool true) := by
  refine AVal.mkw (by simp [AV.shutL]) (by simp [AV.shut]) ?_
  refine ACalls_body Try.func26 rfl rfl ?_
  simp only [Try.ntmps26, List.length_cons, List.length_nil, Nat.reduceAdd, Nat.reduceSub, List.replicate_succ, List.replicate_zero, List.cons_append, List.nil_append]
  have h1 : AVal Try.prog 27 [.int .i64 1] (.tup [.agg [.int .i64 1, .int .i64 0, .sl .none [.int .i64 1, .int .i64 7] 1], .int .i64 0]) := first_val 1
  have h2 : AVal Try.prog 32 [.agg [.int .i64 1, .int .i64 0, .sl .none [.int .i64 1, .int .i64 7] 1], .agg [.int .i64 1, .int .i64 2, .int .i64 1, .sl .none [.int .u8 97] 1, .sl .none [] 0, .int .i64 0, .int .i64 0, .int .i64 0, .sl .none [] 0]] (.int .i64 30) := by
    have := may_val (p1 1) ePut (by decide) ePut_mid (by decide)
    rw [m1] at this; exact this
  have h3 : AVal Try.prog 32 [.agg [.int .i64 1, .int .i64 0, .sl .none [.int .i64 1, .int .i64 7, .int .i64 2, .int .i64 2] 2], .agg [.int .i64 1, .int .i64 2, .int .i64 1, .sl .none [.int .u8 97] 1, .sl .none [] 0, .int .i64 0, .int .i64 0, .int .i64 0, .sl .none [] 0]] (.int .i64 0) := by
    have := may_val p2 ePut (by decide) ePut_mid (by decide)
    rw [m2] at this; exact this
  have h4 : AVal Try.prog 32 [.agg [.int .i64 1, .int .i64 0, .sl .none [.int .i64 1, .int .i64 7, .int .i64 2, .int .i64 1] 2], .agg [.int .i64 1, .int .i64 2, .int .i64 1, .sl .none [.int .u8 97] 1, .sl .none [] 0, .int .i64 0, .int .i64 0, .int .i64 0, .sl .none [] 0]] (.int .i64 30) := by
    have := may_val p3 ePut (by decide) ePut_mid (by decide)
    rw [m3] at this; exact this
  have h5 : AVal Try.prog 30 [.agg [.int .i64 1, .int .i64 0, .sl .none [.int .i64 1, .int .i64 7] 1], .agg [.int .i64 3, .int .i64 1, .int .i64 1, .sl .none [] 0, .sl .none [] 0, .int .i64 2, .int .i64 2, .int .i64 0, .sl .none [] 0]] (.tup [.agg [.int .i64 1, .int .i64 0, .sl .none [.int .i64 1, .int .i64 7, .int .i64 2, .int .i64 2] 2], .int .i64 0]) := by
    have := apply_val (p1 1) eG1 (by decide) eG1_mid (by decide)
    unfold apR apP at this
    rw [m4, if_pos rfl, a1] at this; exact this
  have h6 : AVal Try.prog 30 [.agg [.int .i64 1, .int .i64 0, .sl .none [.int .i64 1, .int .i64 7, .int .i64 2, .int .i64 2] 2], .agg [.int .i64 3, .int .i64 1, .int .i64 2, .sl .none [] 0, .sl .none [] 0, .int .i64 2, .int .i64 1, .int .i64 0, .sl .none [] 0]] (.tup [.agg [.int .i64 1, .int .i64 0, .sl .none [.int .i64 1, .int .i64 7, .int .i64 2, .int .i64 1] 2], .int .i64 0]) := by
    have := apply_val p2 eG2 (by decide) eG2_mid (by decide)
    unfold apR apP at this
    rw [m5, if_pos rfl, a2] at this; exact this
  have h7 : AVal Try.prog 36 [.agg [.int .i64 1, .int .i64 0, .sl .none [.int .i64 1, .int .i64 7, .int .i64 2, .int .i64 1] 2]] (.sl .none [.int .i64 1, .int .i64 2] 2) := readers_val p3 a3 (by decide)
  refine Run ?_ trivial trivial trivial trivial trivial trivial trivial RowB.ok trivial trivial trivial trivial
  rfl
end Go.Proofs.Ytaffpkogcpkmjaa
