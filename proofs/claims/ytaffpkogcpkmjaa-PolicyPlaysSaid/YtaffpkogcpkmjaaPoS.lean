/- Law 10: the reference's May. -/
import Derived.Test.YtaffpkogcpkmjaaPoR
namespace Go.Proofs.Ytaffpkogcpkmjaa
open Go.RowKit
set_option linter.unusedVariables false
set_option linter.unusedSimpArgs false
set_option maxRecDepth 10000
set_option maxHeartbeats 8000000 in
theorem refMay10_val (p : Po) (e : En) (hp : PoOk p) (he : EnOk e) (hw : e.wraps.length ≤ 1000) : AVal Try.prog 31 [.agg (rpC p.founder p.epoch (rightsOf p.mem)), enA e] (.int .i64 (mayN p e)) := by
  refine AVal.mkw (by simp only [AV.shutL, AV.shut, rpC_shut, enA_shut, Bool.and_self]; first | done | simp [shutL_bvA, wpCs_shut]) (by simp [AV.shut]) ?_
  refine ACalls_body Try.func31 rfl rfl ?_
  simp only [Try.ntmps31, List.length_cons, List.length_nil, Nat.reduceAdd, Nat.reduceSub, List.replicate_succ, List.replicate_zero, List.cons_append, List.nil_append]
  have hrs := (MbOk_iff _).1 hp.1
  have hgr := fun w => (rightsOf_range (ms := p.mem) w hp.1.each).1
  have hRd := refReaders10_val p.founder p.epoch (rightsOf p.mem) e.wraps hgr hw
  rw [odds_readers 16 0 p.mem hrs rfl] at hRd
  have w1 := he.2.2.1
  have w2 := he.2.2.2.1
  have hk1 := he.1
  have hk5 := he.2.1
  have e0 := hp.2.1
  have e1 := hp.2.2.1
  have hat := rpC_at p.founder p.epoch (rightsOf p.mem) (w := e.writer) (by omega) (by omega)
  have h0 : (rpC p.founder p.epoch (rightsOf p.mem))[0 + 0]? = some (.int .i64 p.founder) := rfl
  have h1 : (rpC p.founder p.epoch (rightsOf p.mem))[0 + 1]? = some (.int .i64 p.epoch) := rfl
  have hFi : Fits p e ↔ e.epoch = p.epoch + 1 ∧ e.wraps.map Wp.who = readersOf p.mem := Iff.rfl
  unfold mayN
  rw [if_neg (by rw [Classical.not_not]; exact ⟨hp, he⟩)]
  generalize rightsOf p.mem e.writer = rr at *
  by_cases hk : e.kind ≤ 2
  · rw [if_pos hk]
    by_cases h2 : rr < 2
    · rw [if_pos h2]
      refine RunB ?_ trivial trivial trivial trivial trivial trivial trivial trivial trivial trivial trivial trivial
      rfl
    · rw [if_neg h2]
      refine RunB ?_ trivial trivial trivial trivial trivial trivial trivial trivial trivial trivial trivial trivial
      rfl
  · rw [if_neg hk]
    by_cases k5 : e.kind = 5
    · rw [if_neg (fun h => h.1 k5)]
      by_cases h4 : rr < 4
      · rw [if_pos h4]
        refine RunB ?_ trivial trivial trivial trivial trivial trivial trivial trivial trivial trivial trivial trivial
        rfl
      · rw [if_neg h4]
        by_cases q1 : e.epoch = p.epoch + 1
        · by_cases q2 : e.wraps.map Wp.who = readersOf p.mem
          · rw [if_neg (fun h => h.2 (hFi.2 ⟨q1, q2⟩))]
            rw [decide_eq_true q2] at hRd
            refine RunB ?_ trivial trivial trivial trivial trivial trivial trivial trivial trivial trivial trivial trivial
            rfl
          · rw [if_pos ⟨k5, fun h => q2 (hFi.1 h).2⟩]
            rw [decide_eq_false q2] at hRd
            refine RunB ?_ trivial trivial trivial trivial trivial trivial trivial trivial trivial trivial trivial trivial
            rfl
        · rw [if_pos ⟨k5, fun h => q1 (hFi.1 h).1⟩]
          refine RunB ?_ trivial trivial trivial trivial trivial trivial trivial trivial trivial trivial trivial trivial
          rfl
    · by_cases hfo : e.who = p.founder
      · rw [if_pos ⟨k5, hfo⟩]
        by_cases h4 : rr < 4
        · refine RunB ?_ trivial trivial trivial trivial trivial trivial trivial trivial trivial trivial trivial trivial
          rfl
        · refine RunB ?_ trivial trivial trivial trivial trivial trivial trivial trivial trivial trivial trivial trivial
          rfl
      · rw [if_neg (fun h => hfo h.2)]
        by_cases h4 : rr < 4
        · rw [if_pos h4]
          refine RunB ?_ trivial trivial trivial trivial trivial trivial trivial trivial trivial trivial trivial trivial
          rfl
        · rw [if_neg h4, if_neg (fun h => k5 h.1)]
          refine RunB ?_ trivial trivial trivial trivial trivial trivial trivial trivial trivial trivial trivial trivial
          rfl
end Go.Proofs.Ytaffpkogcpkmjaa
