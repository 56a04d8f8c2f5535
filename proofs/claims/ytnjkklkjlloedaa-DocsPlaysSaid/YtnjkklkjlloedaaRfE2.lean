/- The reference of layer 9 by the abstract machine: Right. -/
import Derived.Test.YtnjkklkjlloedaaEnC
import Derived.Test.YtnjkklkjlloedaaRfE1
namespace Go.Proofs.Ytnjkklkjlloedaa
open Go.RowKit
set_option linter.unusedVariables false
set_option linter.unusedSimpArgs false
set_option maxRecDepth 10000
theorem enok1 (w s : Int) (nm vl : List UInt8) (wh rt ep : Int) (ws : List Wp) : EnOk ⟨1, w, s, nm, vl, wh, rt, ep, ws⟩ ↔ (1 ≤ w ∧ w ≤ 16 ∧ 1 ≤ s ∧ s ≤ 1099511627776 ∧ wh = 0 ∧ rt = 0 ∧ ep = 0 ∧ ws.length = 0 ∧ 1 ≤ nm.length ∧ nm.length ≤ 64 ∧ vl.length ≤ 512) := by
  simp [EnOk, En.same_iff, En.bare, ← List.length_eq_zero_iff]; omega
theorem enok2 (w s : Int) (nm vl : List UInt8) (wh rt ep : Int) (ws : List Wp) : EnOk ⟨2, w, s, nm, vl, wh, rt, ep, ws⟩ ↔ (1 ≤ w ∧ w ≤ 16 ∧ 1 ≤ s ∧ s ≤ 1099511627776 ∧ wh = 0 ∧ rt = 0 ∧ ep = 0 ∧ ws.length = 0 ∧ 1 ≤ nm.length ∧ nm.length ≤ 64 ∧ vl.length = 0) := by
  simp [EnOk, En.same_iff, En.bare, ← List.length_eq_zero_iff]; omega
theorem enok3 (w s : Int) (nm vl : List UInt8) (wh rt ep : Int) (ws : List Wp) : EnOk ⟨3, w, s, nm, vl, wh, rt, ep, ws⟩ ↔ (1 ≤ w ∧ w ≤ 16 ∧ 1 ≤ s ∧ s ≤ 1099511627776 ∧ nm.length = 0 ∧ vl.length = 0 ∧ ep = 0 ∧ ws.length = 0 ∧ 1 ≤ wh ∧ wh ≤ 16 ∧ 1 ≤ rt ∧ rt ≤ 7) := by
  simp [EnOk, En.same_iff, En.bare, ← List.length_eq_zero_iff]; omega
theorem enok4 (w s : Int) (nm vl : List UInt8) (wh rt ep : Int) (ws : List Wp) : EnOk ⟨4, w, s, nm, vl, wh, rt, ep, ws⟩ ↔ (1 ≤ w ∧ w ≤ 16 ∧ 1 ≤ s ∧ s ≤ 1099511627776 ∧ nm.length = 0 ∧ vl.length = 0 ∧ rt = 0 ∧ ep = 0 ∧ ws.length = 0 ∧ 1 ≤ wh ∧ wh ≤ 16) := by
  simp [EnOk, En.same_iff, En.bare, ← List.length_eq_zero_iff]; omega
theorem enok5 (w s : Int) (nm vl : List UInt8) (wh rt ep : Int) (ws : List Wp) : EnOk ⟨5, w, s, nm, vl, wh, rt, ep, ws⟩ ↔ (1 ≤ w ∧ w ≤ 16 ∧ 1 ≤ s ∧ s ≤ 1099511627776 ∧ nm.length = 0 ∧ vl.length = 0 ∧ wh = 0 ∧ rt = 0 ∧ 1 ≤ ep ∧ ep ≤ 16 ∧ WrOk ws) := by
  by_cases h : WrOk ws
  · simp [EnOk, En.same_iff, En.bare, ← List.length_eq_zero_iff, h]; omega
  · simp [EnOk, h]
theorem enok0 (e : En) (h1 : e.kind ≠ 1) (h2 : e.kind ≠ 2) (h3 : e.kind ≠ 3) (h4 : e.kind ≠ 4) (h5 : e.kind ≠ 5) : ¬ EnOk e := fun h => by
  have := h.1; have := h.2.1; omega
set_option maxHeartbeats 8000000 in
theorem refRight_val (e : En) (hm : e.wraps.length ≤ 9223372036854775807) : AVal Try.prog 35 [enA e] (.bool (decide (EnOk e))) := by
  refine AVal.mkw (by simp only [AV.shutL, enA_shut, Bool.and_self]) (by simp [AV.shut]) ?_
  refine ACalls_body Try.func35 rfl rfl ?_
  simp only [Try.ntmps35, List.length_cons, List.length_nil, Nat.reduceAdd, Nat.reduceSub, List.replicate_succ, List.replicate_zero, List.cons_append, List.nil_append]
  obtain ⟨k, w, s, nm, vl, wh, rt, ep, ws⟩ := e
  have h3 := refWraps_val ws hm
  by_cases k1 : k = 1
  · subst k1
    have hI := enok1 w s nm vl wh rt ep ws
    clear h3
    refine Run trivial trivial trivial @refWho_val trivial trivial trivial trivial trivial trivial trivial hI Split.ok
  by_cases k2 : k = 2
  · subst k2
    have hI := enok2 w s nm vl wh rt ep ws
    clear h3
    refine Run trivial trivial trivial @refWho_val trivial trivial trivial trivial trivial trivial trivial hI Split.ok
  by_cases k3 : k = 3
  · subst k3
    have hI := enok3 w s nm vl wh rt ep ws
    clear h3
    refine Run trivial trivial trivial @refWho_val trivial trivial trivial trivial trivial trivial trivial hI Split.ok
  by_cases k4 : k = 4
  · subst k4
    have hI := enok4 w s nm vl wh rt ep ws
    clear h3
    have a1 := refWho_val w
    have a2 := refWho_val wh
    by_cases hw : 1 ≤ wh ∧ wh ≤ 16
    · rw [decide_eq_true hw] at a2
      by_cases hv : 1 ≤ w ∧ w ≤ 16
      · rw [decide_eq_true hv] at a1
        refine Run trivial trivial trivial trivial trivial trivial trivial trivial trivial trivial trivial hI Split.ok
      · rw [decide_eq_false hv] at a1
        refine Run trivial trivial trivial trivial trivial trivial trivial trivial trivial trivial trivial hI Split.ok
    · rw [decide_eq_false hw] at a2
      by_cases hv : 1 ≤ w ∧ w ≤ 16
      · rw [decide_eq_true hv] at a1
        refine Run trivial trivial trivial trivial trivial trivial trivial trivial trivial trivial trivial hI Split.ok
      · rw [decide_eq_false hv] at a1
        refine Run trivial trivial trivial trivial trivial trivial trivial trivial trivial trivial trivial hI Split.ok
  by_cases k5 : k = 5
  · subst k5
    have hI := enok5 w s nm vl wh rt ep ws
    by_cases hw : WrOk ws
    · rw [decide_eq_true hw] at h3
      refine Run trivial trivial trivial @refWho_val trivial trivial trivial trivial trivial trivial trivial hI Split.ok
    · rw [decide_eq_false hw] at h3
      refine Run trivial trivial trivial @refWho_val trivial trivial trivial trivial trivial trivial trivial hI Split.ok
  · have hI := enok0 ⟨k, w, s, nm, vl, wh, rt, ep, ws⟩ k1 k2 k3 k4 k5
    clear h3
    refine Run trivial trivial trivial @refWho_val trivial trivial trivial trivial trivial trivial trivial hI Split.ok
end Go.Proofs.Ytnjkklkjlloedaa
