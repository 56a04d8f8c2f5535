/- Law 9: EntryKinds. -/
import Derived.Test.YtaffpkogcpkmjaaEnW1
namespace Go.Proofs.Ytaffpkogcpkmjaa
open Go.RowKit
set_option linter.unusedVariables false
set_option linter.unusedSimpArgs false
set_option maxRecDepth 10000
theorem kinds0 {e : En} (h : EnOk e) : EnOk { e with name := [110] } ↔ e.kind ≤ 2 := by
  obtain ⟨k, w, s, nm, vl, wh, rt, ep, ws⟩ := e
  have h1 : 1 ≤ k := h.1
  have h2 : k ≤ 5 := h.2.1
  rcases (show k = 1 ∨ k = 2 ∨ k = 3 ∨ k = 4 ∨ k = 5 by omega) with rfl | rfl | rfl | rfl | rfl
  · rw [enok1] at h ⊢; simp only [List.length_cons, List.length_nil] at h ⊢; (first | omega | (simp only [true_iff, iff_true]; omega) | (constructor <;> intro _ <;> omega) | (simp; omega) | (simp at h ⊢; omega) | (simp [h]; done))
  · rw [enok2] at h ⊢; simp only [List.length_cons, List.length_nil] at h ⊢; (first | omega | (simp only [true_iff, iff_true]; omega) | (constructor <;> intro _ <;> omega) | (simp; omega) | (simp at h ⊢; omega) | (simp [h]; done))
  · rw [enok3] at h ⊢; simp only [List.length_cons, List.length_nil] at h ⊢; (first | omega | (simp only [true_iff, iff_true]; omega) | (constructor <;> intro _ <;> omega) | (simp; omega) | (simp at h ⊢; omega) | (simp [h]; done))
  · rw [enok4] at h ⊢; simp only [List.length_cons, List.length_nil] at h ⊢; (first | omega | (simp only [true_iff, iff_true]; omega) | (constructor <;> intro _ <;> omega) | (simp; omega) | (simp at h ⊢; omega) | (simp [h]; done))
  · rw [enok5] at h ⊢
    have hw : WrOk ws := h.2.2.2.2.2.2.2.2.2.2
    simp only [hw, and_true, List.length_cons, List.length_nil] at h ⊢; (first | omega | (simp only [true_iff, iff_true]; omega) | (constructor <;> intro _ <;> omega) | (simp; omega) | (simp at h ⊢; omega) | (simp [h]; done))
set_option maxHeartbeats 20000000 in
theorem EntryKinds_0 (e : En) (hm : e.wraps.length ≤ 9223372036854775807) (hsm : SmallE e) (hok : EnOk e) : ACalls Try.prog 7 [enA e, .int .i64 0] ⟨[], [], 0⟩ (fun rv _ => rv = .bool true) := by
  refine ACalls_body Try.func7 rfl rfl ?_
  simp only [Try.ntmps7, List.length_cons, List.length_nil, Nat.reduceAdd, Nat.reduceSub, List.replicate_succ, List.replicate_zero, List.cons_append, List.nil_append]
  have hS := smallE_val e hm
  rw [decide_eq_true hsm] at hS
  have hmid := hsm.mid
  have hR1 := enright_val e hmid
  rw [decide_eq_true hok] at hR1
  have hx := kinds0 hok
  have hE0 := enencode_val { e with name := [110] } ⟨by simp, hmid.value, hmid.wraps, hmid.boxes⟩
  have hR0 := enright_val { e with name := [110] } ⟨by simp, hmid.value, hmid.wraps, hmid.boxes⟩
  have hE : AVal Try.prog 18 [.agg [.int .i64 e.kind, .int .i64 e.writer, .int .i64 e.seq, .sl .none [.int .u8 110] 1, bsA e.value, .int .i64 e.who, .int .i64 e.rights, .int .i64 e.epoch, wrA e.wraps]] (enR { e with name := [110] }) := hE0
  have hR : AVal Try.prog 19 [.agg [.int .i64 e.kind, .int .i64 e.writer, .int .i64 e.seq, .sl .none [.int .u8 110] 1, bsA e.value, .int .i64 e.who, .int .i64 e.rights, .int .i64 e.epoch, wrA e.wraps]] (.bool (decide (EnOk { e with name := [110] }))) := hR0
  clear hE0 hR0
  by_cases ho : e.kind ≤ 2
  · rw [enR_ok (hx.2 ho)] at hE
    rw [decide_eq_true (hx.2 ho)] at hR
    refine Run ?_ trivial trivial @anchor9_val trivial trivial trivial MkB.ok RowB.ok trivial @wpCs_wk trivial trivial
    rfl
  · rw [enR_no (fun h => ho (hx.1 h))] at hE
    rw [decide_eq_false (fun h => ho (hx.1 h))] at hR
    refine Run ?_ trivial trivial @anchor9_val trivial trivial trivial MkB.ok RowB.ok trivial @wpCs_wk trivial trivial
    rfl
theorem kinds1 {e : En} (h : EnOk e) : EnOk { e with value := [118] } ↔ e.kind = 1 := by
  obtain ⟨k, w, s, nm, vl, wh, rt, ep, ws⟩ := e
  have h1 : 1 ≤ k := h.1
  have h2 : k ≤ 5 := h.2.1
  rcases (show k = 1 ∨ k = 2 ∨ k = 3 ∨ k = 4 ∨ k = 5 by omega) with rfl | rfl | rfl | rfl | rfl
  · rw [enok1] at h ⊢; simp only [List.length_cons, List.length_nil] at h ⊢; (first | omega | (simp only [true_iff, iff_true]; omega) | (constructor <;> intro _ <;> omega) | (simp; omega) | (simp at h ⊢; omega) | (simp [h]; done))
  · rw [enok2] at h ⊢; simp only [List.length_cons, List.length_nil] at h ⊢; (first | omega | (simp only [true_iff, iff_true]; omega) | (constructor <;> intro _ <;> omega) | (simp; omega) | (simp at h ⊢; omega) | (simp [h]; done))
  · rw [enok3] at h ⊢; simp only [List.length_cons, List.length_nil] at h ⊢; (first | omega | (simp only [true_iff, iff_true]; omega) | (constructor <;> intro _ <;> omega) | (simp; omega) | (simp at h ⊢; omega) | (simp [h]; done))
  · rw [enok4] at h ⊢; simp only [List.length_cons, List.length_nil] at h ⊢; (first | omega | (simp only [true_iff, iff_true]; omega) | (constructor <;> intro _ <;> omega) | (simp; omega) | (simp at h ⊢; omega) | (simp [h]; done))
  · rw [enok5] at h ⊢
    have hw : WrOk ws := h.2.2.2.2.2.2.2.2.2.2
    simp only [hw, and_true, List.length_cons, List.length_nil] at h ⊢; (first | omega | (simp only [true_iff, iff_true]; omega) | (constructor <;> intro _ <;> omega) | (simp; omega) | (simp at h ⊢; omega) | (simp [h]; done))
set_option maxHeartbeats 20000000 in
theorem EntryKinds_1 (e : En) (hm : e.wraps.length ≤ 9223372036854775807) (hsm : SmallE e) (hok : EnOk e) : ACalls Try.prog 7 [enA e, .int .i64 1] ⟨[], [], 0⟩ (fun rv _ => rv = .bool true) := by
  refine ACalls_body Try.func7 rfl rfl ?_
  simp only [Try.ntmps7, List.length_cons, List.length_nil, Nat.reduceAdd, Nat.reduceSub, List.replicate_succ, List.replicate_zero, List.cons_append, List.nil_append]
  have hS := smallE_val e hm
  rw [decide_eq_true hsm] at hS
  have hmid := hsm.mid
  have hR1 := enright_val e hmid
  rw [decide_eq_true hok] at hR1
  have hx := kinds1 hok
  have hE0 := enencode_val { e with value := [118] } ⟨hmid.name, by simp, hmid.wraps, hmid.boxes⟩
  have hR0 := enright_val { e with value := [118] } ⟨hmid.name, by simp, hmid.wraps, hmid.boxes⟩
  have hE : AVal Try.prog 18 [.agg [.int .i64 e.kind, .int .i64 e.writer, .int .i64 e.seq, bsA e.name, .sl .none [.int .u8 118] 1, .int .i64 e.who, .int .i64 e.rights, .int .i64 e.epoch, wrA e.wraps]] (enR { e with value := [118] }) := hE0
  have hR : AVal Try.prog 19 [.agg [.int .i64 e.kind, .int .i64 e.writer, .int .i64 e.seq, bsA e.name, .sl .none [.int .u8 118] 1, .int .i64 e.who, .int .i64 e.rights, .int .i64 e.epoch, wrA e.wraps]] (.bool (decide (EnOk { e with value := [118] }))) := hR0
  clear hE0 hR0
  by_cases ho : e.kind = 1
  · rw [enR_ok (hx.2 ho)] at hE
    rw [decide_eq_true (hx.2 ho)] at hR
    refine Run ?_ trivial trivial @anchor9_val trivial trivial trivial MkB.ok RowB.ok trivial @wpCs_wk trivial trivial
    rfl
  · rw [enR_no (fun h => ho (hx.1 h))] at hE
    rw [decide_eq_false (fun h => ho (hx.1 h))] at hR
    refine Run ?_ trivial trivial @anchor9_val trivial trivial trivial MkB.ok RowB.ok trivial @wpCs_wk trivial trivial
    rfl
theorem kinds2 {e : En} (h : EnOk e) : EnOk { e with who := 1 } ↔ e.kind = 3 ∨ e.kind = 4 := by
  obtain ⟨k, w, s, nm, vl, wh, rt, ep, ws⟩ := e
  have h1 : 1 ≤ k := h.1
  have h2 : k ≤ 5 := h.2.1
  rcases (show k = 1 ∨ k = 2 ∨ k = 3 ∨ k = 4 ∨ k = 5 by omega) with rfl | rfl | rfl | rfl | rfl
  · rw [enok1] at h ⊢; simp only [List.length_cons, List.length_nil] at h ⊢; (first | omega | (simp only [true_iff, iff_true]; omega) | (constructor <;> intro _ <;> omega) | (simp; omega) | (simp at h ⊢; omega) | (simp [h]; done))
  · rw [enok2] at h ⊢; simp only [List.length_cons, List.length_nil] at h ⊢; (first | omega | (simp only [true_iff, iff_true]; omega) | (constructor <;> intro _ <;> omega) | (simp; omega) | (simp at h ⊢; omega) | (simp [h]; done))
  · rw [enok3] at h ⊢; simp only [List.length_cons, List.length_nil] at h ⊢; (first | omega | (simp only [true_iff, iff_true]; omega) | (constructor <;> intro _ <;> omega) | (simp; omega) | (simp at h ⊢; omega) | (simp [h]; done))
  · rw [enok4] at h ⊢; simp only [List.length_cons, List.length_nil] at h ⊢; (first | omega | (simp only [true_iff, iff_true]; omega) | (constructor <;> intro _ <;> omega) | (simp; omega) | (simp at h ⊢; omega) | (simp [h]; done))
  · rw [enok5] at h ⊢
    have hw : WrOk ws := h.2.2.2.2.2.2.2.2.2.2
    simp only [hw, and_true, List.length_cons, List.length_nil] at h ⊢; (first | omega | (simp only [true_iff, iff_true]; omega) | (constructor <;> intro _ <;> omega) | (simp; omega) | (simp at h ⊢; omega) | (simp [h]; done))
set_option maxHeartbeats 20000000 in
theorem EntryKinds_2 (e : En) (hm : e.wraps.length ≤ 9223372036854775807) (hsm : SmallE e) (hok : EnOk e) : ACalls Try.prog 7 [enA e, .int .i64 2] ⟨[], [], 0⟩ (fun rv _ => rv = .bool true) := by
  refine ACalls_body Try.func7 rfl rfl ?_
  simp only [Try.ntmps7, List.length_cons, List.length_nil, Nat.reduceAdd, Nat.reduceSub, List.replicate_succ, List.replicate_zero, List.cons_append, List.nil_append]
  have hS := smallE_val e hm
  rw [decide_eq_true hsm] at hS
  have hmid := hsm.mid
  have hR1 := enright_val e hmid
  rw [decide_eq_true hok] at hR1
  have hx := kinds2 hok
  have hE0 := enencode_val { e with who := 1 } ⟨hmid.name, hmid.value, hmid.wraps, hmid.boxes⟩
  have hR0 := enright_val { e with who := 1 } ⟨hmid.name, hmid.value, hmid.wraps, hmid.boxes⟩
  have hE : AVal Try.prog 18 [.agg [.int .i64 e.kind, .int .i64 e.writer, .int .i64 e.seq, bsA e.name, bsA e.value, .int .i64 1, .int .i64 e.rights, .int .i64 e.epoch, wrA e.wraps]] (enR { e with who := 1 }) := hE0
  have hR : AVal Try.prog 19 [.agg [.int .i64 e.kind, .int .i64 e.writer, .int .i64 e.seq, bsA e.name, bsA e.value, .int .i64 1, .int .i64 e.rights, .int .i64 e.epoch, wrA e.wraps]] (.bool (decide (EnOk { e with who := 1 }))) := hR0
  clear hE0 hR0
  by_cases k3 : e.kind = 3
  · have ho : e.kind = 3 ∨ e.kind = 4 := .inl k3
    rw [enR_ok (hx.2 ho)] at hE
    rw [decide_eq_true (hx.2 ho)] at hR
    refine Run ?_ trivial trivial @anchor9_val trivial trivial trivial MkB.ok RowB.ok trivial @wpCs_wk trivial trivial
    rfl
  · by_cases k4 : e.kind = 4
    · have ho : e.kind = 3 ∨ e.kind = 4 := .inr k4
      rw [enR_ok (hx.2 ho)] at hE
      rw [decide_eq_true (hx.2 ho)] at hR
      refine Run ?_ trivial trivial @anchor9_val trivial trivial trivial MkB.ok RowB.ok trivial @wpCs_wk trivial trivial
      rfl
    · have ho : ¬ (e.kind = 3 ∨ e.kind = 4) := by omega
      rw [enR_no (fun h => ho (hx.1 h))] at hE
      rw [decide_eq_false (fun h => ho (hx.1 h))] at hR
      refine Run ?_ trivial trivial @anchor9_val trivial trivial trivial MkB.ok RowB.ok trivial @wpCs_wk trivial trivial
      rfl
theorem kinds3 {e : En} (h : EnOk e) : EnOk { e with rights := 1 } ↔ e.kind = 3 := by
  obtain ⟨k, w, s, nm, vl, wh, rt, ep, ws⟩ := e
  have h1 : 1 ≤ k := h.1
  have h2 : k ≤ 5 := h.2.1
  rcases (show k = 1 ∨ k = 2 ∨ k = 3 ∨ k = 4 ∨ k = 5 by omega) with rfl | rfl | rfl | rfl | rfl
  · rw [enok1] at h ⊢; simp only [List.length_cons, List.length_nil] at h ⊢; (first | omega | (simp only [true_iff, iff_true]; omega) | (constructor <;> intro _ <;> omega) | (simp; omega) | (simp at h ⊢; omega) | (simp [h]; done))
  · rw [enok2] at h ⊢; simp only [List.length_cons, List.length_nil] at h ⊢; (first | omega | (simp only [true_iff, iff_true]; omega) | (constructor <;> intro _ <;> omega) | (simp; omega) | (simp at h ⊢; omega) | (simp [h]; done))
  · rw [enok3] at h ⊢; simp only [List.length_cons, List.length_nil] at h ⊢; (first | omega | (simp only [true_iff, iff_true]; omega) | (constructor <;> intro _ <;> omega) | (simp; omega) | (simp at h ⊢; omega) | (simp [h]; done))
  · rw [enok4] at h ⊢; simp only [List.length_cons, List.length_nil] at h ⊢; (first | omega | (simp only [true_iff, iff_true]; omega) | (constructor <;> intro _ <;> omega) | (simp; omega) | (simp at h ⊢; omega) | (simp [h]; done))
  · rw [enok5] at h ⊢
    have hw : WrOk ws := h.2.2.2.2.2.2.2.2.2.2
    simp only [hw, and_true, List.length_cons, List.length_nil] at h ⊢; (first | omega | (simp only [true_iff, iff_true]; omega) | (constructor <;> intro _ <;> omega) | (simp; omega) | (simp at h ⊢; omega) | (simp [h]; done))
set_option maxHeartbeats 20000000 in
theorem EntryKinds_3 (e : En) (hm : e.wraps.length ≤ 9223372036854775807) (hsm : SmallE e) (hok : EnOk e) : ACalls Try.prog 7 [enA e, .int .i64 3] ⟨[], [], 0⟩ (fun rv _ => rv = .bool true) := by
  refine ACalls_body Try.func7 rfl rfl ?_
  simp only [Try.ntmps7, List.length_cons, List.length_nil, Nat.reduceAdd, Nat.reduceSub, List.replicate_succ, List.replicate_zero, List.cons_append, List.nil_append]
  have hS := smallE_val e hm
  rw [decide_eq_true hsm] at hS
  have hmid := hsm.mid
  have hR1 := enright_val e hmid
  rw [decide_eq_true hok] at hR1
  have hx := kinds3 hok
  have hE0 := enencode_val { e with rights := 1 } ⟨hmid.name, hmid.value, hmid.wraps, hmid.boxes⟩
  have hR0 := enright_val { e with rights := 1 } ⟨hmid.name, hmid.value, hmid.wraps, hmid.boxes⟩
  have hE : AVal Try.prog 18 [.agg [.int .i64 e.kind, .int .i64 e.writer, .int .i64 e.seq, bsA e.name, bsA e.value, .int .i64 e.who, .int .i64 1, .int .i64 e.epoch, wrA e.wraps]] (enR { e with rights := 1 }) := hE0
  have hR : AVal Try.prog 19 [.agg [.int .i64 e.kind, .int .i64 e.writer, .int .i64 e.seq, bsA e.name, bsA e.value, .int .i64 e.who, .int .i64 1, .int .i64 e.epoch, wrA e.wraps]] (.bool (decide (EnOk { e with rights := 1 }))) := hR0
  clear hE0 hR0
  by_cases ho : e.kind = 3
  · rw [enR_ok (hx.2 ho)] at hE
    rw [decide_eq_true (hx.2 ho)] at hR
    refine Run ?_ trivial trivial @anchor9_val trivial trivial trivial MkB.ok RowB.ok trivial @wpCs_wk trivial trivial
    rfl
  · rw [enR_no (fun h => ho (hx.1 h))] at hE
    rw [decide_eq_false (fun h => ho (hx.1 h))] at hR
    refine Run ?_ trivial trivial @anchor9_val trivial trivial trivial MkB.ok RowB.ok trivial @wpCs_wk trivial trivial
    rfl
theorem kinds4 {e : En} (h : EnOk e) : EnOk { e with epoch := 1 } ↔ e.kind = 5 := by
  obtain ⟨k, w, s, nm, vl, wh, rt, ep, ws⟩ := e
  have h1 : 1 ≤ k := h.1
  have h2 : k ≤ 5 := h.2.1
  rcases (show k = 1 ∨ k = 2 ∨ k = 3 ∨ k = 4 ∨ k = 5 by omega) with rfl | rfl | rfl | rfl | rfl
  · rw [enok1] at h ⊢; simp only [List.length_cons, List.length_nil] at h ⊢; (first | omega | (simp only [true_iff, iff_true]; omega) | (constructor <;> intro _ <;> omega) | (simp; omega) | (simp at h ⊢; omega) | (simp [h]; done))
  · rw [enok2] at h ⊢; simp only [List.length_cons, List.length_nil] at h ⊢; (first | omega | (simp only [true_iff, iff_true]; omega) | (constructor <;> intro _ <;> omega) | (simp; omega) | (simp at h ⊢; omega) | (simp [h]; done))
  · rw [enok3] at h ⊢; simp only [List.length_cons, List.length_nil] at h ⊢; (first | omega | (simp only [true_iff, iff_true]; omega) | (constructor <;> intro _ <;> omega) | (simp; omega) | (simp at h ⊢; omega) | (simp [h]; done))
  · rw [enok4] at h ⊢; simp only [List.length_cons, List.length_nil] at h ⊢; (first | omega | (simp only [true_iff, iff_true]; omega) | (constructor <;> intro _ <;> omega) | (simp; omega) | (simp at h ⊢; omega) | (simp [h]; done))
  · rw [enok5] at h ⊢
    have hw : WrOk ws := h.2.2.2.2.2.2.2.2.2.2
    simp only [hw, and_true, List.length_cons, List.length_nil] at h ⊢; (first | omega | (simp only [true_iff, iff_true]; omega) | (constructor <;> intro _ <;> omega) | (simp; omega) | (simp at h ⊢; omega) | (simp [h]; done))
set_option maxHeartbeats 20000000 in
theorem EntryKinds_4 (e : En) (hm : e.wraps.length ≤ 9223372036854775807) (hsm : SmallE e) (hok : EnOk e) : ACalls Try.prog 7 [enA e, .int .i64 4] ⟨[], [], 0⟩ (fun rv _ => rv = .bool true) := by
  refine ACalls_body Try.func7 rfl rfl ?_
  simp only [Try.ntmps7, List.length_cons, List.length_nil, Nat.reduceAdd, Nat.reduceSub, List.replicate_succ, List.replicate_zero, List.cons_append, List.nil_append]
  have hS := smallE_val e hm
  rw [decide_eq_true hsm] at hS
  have hmid := hsm.mid
  have hR1 := enright_val e hmid
  rw [decide_eq_true hok] at hR1
  have hx := kinds4 hok
  have hE0 := enencode_val { e with epoch := 1 } ⟨hmid.name, hmid.value, hmid.wraps, hmid.boxes⟩
  have hR0 := enright_val { e with epoch := 1 } ⟨hmid.name, hmid.value, hmid.wraps, hmid.boxes⟩
  have hE : AVal Try.prog 18 [.agg [.int .i64 e.kind, .int .i64 e.writer, .int .i64 e.seq, bsA e.name, bsA e.value, .int .i64 e.who, .int .i64 e.rights, .int .i64 1, wrA e.wraps]] (enR { e with epoch := 1 }) := hE0
  have hR : AVal Try.prog 19 [.agg [.int .i64 e.kind, .int .i64 e.writer, .int .i64 e.seq, bsA e.name, bsA e.value, .int .i64 e.who, .int .i64 e.rights, .int .i64 1, wrA e.wraps]] (.bool (decide (EnOk { e with epoch := 1 }))) := hR0
  clear hE0 hR0
  by_cases ho : e.kind = 5
  · rw [enR_ok (hx.2 ho)] at hE
    rw [decide_eq_true (hx.2 ho)] at hR
    refine Run ?_ trivial trivial @anchor9_val trivial trivial trivial MkB.ok RowB.ok trivial @wpCs_wk trivial trivial
    rfl
  · rw [enR_no (fun h => ho (hx.1 h))] at hE
    rw [decide_eq_false (fun h => ho (hx.1 h))] at hR
    refine Run ?_ trivial trivial @anchor9_val trivial trivial trivial MkB.ok RowB.ok trivial @wpCs_wk trivial trivial
    rfl
theorem kinds5 {e : En} (h : EnOk e) : EnOk { e with wraps := [⟨1, List.replicate 48 0⟩] } ↔ e.kind = 5 := by
  obtain ⟨k, w, s, nm, vl, wh, rt, ep, ws⟩ := e
  have h1 : 1 ≤ k := h.1
  have h2 : k ≤ 5 := h.2.1
  rcases (show k = 1 ∨ k = 2 ∨ k = 3 ∨ k = 4 ∨ k = 5 by omega) with rfl | rfl | rfl | rfl | rfl
  · rw [enok1] at h ⊢; simp only [List.length_cons, List.length_nil] at h ⊢; (first | omega | (simp only [true_iff, iff_true]; omega) | (constructor <;> intro _ <;> omega) | (simp; omega) | (simp at h ⊢; omega) | (simp [h]; done))
  · rw [enok2] at h ⊢; simp only [List.length_cons, List.length_nil] at h ⊢; (first | omega | (simp only [true_iff, iff_true]; omega) | (constructor <;> intro _ <;> omega) | (simp; omega) | (simp at h ⊢; omega) | (simp [h]; done))
  · rw [enok3] at h ⊢; simp only [List.length_cons, List.length_nil] at h ⊢; (first | omega | (simp only [true_iff, iff_true]; omega) | (constructor <;> intro _ <;> omega) | (simp; omega) | (simp at h ⊢; omega) | (simp [h]; done))
  · rw [enok4] at h ⊢; simp only [List.length_cons, List.length_nil] at h ⊢; (first | omega | (simp only [true_iff, iff_true]; omega) | (constructor <;> intro _ <;> omega) | (simp; omega) | (simp at h ⊢; omega) | (simp [h]; done))
  · rw [enok5] at h ⊢
    have hw : WrOk [⟨1, List.replicate 48 0⟩] := by simp [WrOk, wrAt, prevWho]
    simp only [hw, and_true, List.length_cons, List.length_nil] at h ⊢
    obtain ⟨a1, a2, a3, a4, a5, a6, a7, a8, a9, a10, a11⟩ := h
    exact ⟨fun _ => trivial, fun _ => ⟨a1, a2, a3, a4, a5, a6, a7, a8, a9, a10⟩⟩
set_option maxHeartbeats 20000000 in
theorem EntryKinds_5 (e : En) (hm : e.wraps.length ≤ 9223372036854775807) (hsm : SmallE e) (hok : EnOk e) : ACalls Try.prog 7 [enA e, .int .i64 5] ⟨[], [], 0⟩ (fun rv _ => rv = .bool true) := by
  refine ACalls_body Try.func7 rfl rfl ?_
  simp only [Try.ntmps7, List.length_cons, List.length_nil, Nat.reduceAdd, Nat.reduceSub, List.replicate_succ, List.replicate_zero, List.cons_append, List.nil_append]
  have hS := smallE_val e hm
  rw [decide_eq_true hsm] at hS
  have hmid := hsm.mid
  have hR1 := enright_val e hmid
  rw [decide_eq_true hok] at hR1
  have hx := kinds5 hok
  have hE0 := enencode_val { e with wraps := [⟨1, List.replicate 48 0⟩] } ⟨hmid.name, hmid.value, by simp, by simp⟩
  have hR0 := enright_val { e with wraps := [⟨1, List.replicate 48 0⟩] } ⟨hmid.name, hmid.value, by simp, by simp⟩
  have hE : AVal Try.prog 18 [.agg [.int .i64 e.kind, .int .i64 e.writer, .int .i64 e.seq, bsA e.name, bsA e.value, .int .i64 e.who, .int .i64 e.rights, .int .i64 e.epoch, .sl .none [.int .i64 1, .sl .none [.int .u8 0, .int .u8 0, .int .u8 0, .int .u8 0, .int .u8 0, .int .u8 0, .int .u8 0, .int .u8 0, .int .u8 0, .int .u8 0, .int .u8 0, .int .u8 0, .int .u8 0, .int .u8 0, .int .u8 0, .int .u8 0, .int .u8 0, .int .u8 0, .int .u8 0, .int .u8 0, .int .u8 0, .int .u8 0, .int .u8 0, .int .u8 0, .int .u8 0, .int .u8 0, .int .u8 0, .int .u8 0, .int .u8 0, .int .u8 0, .int .u8 0, .int .u8 0, .int .u8 0, .int .u8 0, .int .u8 0, .int .u8 0, .int .u8 0, .int .u8 0, .int .u8 0, .int .u8 0, .int .u8 0, .int .u8 0, .int .u8 0, .int .u8 0, .int .u8 0, .int .u8 0, .int .u8 0, .int .u8 0] 48] 1]] (enR { e with wraps := [⟨1, List.replicate 48 0⟩] }) := hE0
  have hR : AVal Try.prog 19 [.agg [.int .i64 e.kind, .int .i64 e.writer, .int .i64 e.seq, bsA e.name, bsA e.value, .int .i64 e.who, .int .i64 e.rights, .int .i64 e.epoch, .sl .none [.int .i64 1, .sl .none [.int .u8 0, .int .u8 0, .int .u8 0, .int .u8 0, .int .u8 0, .int .u8 0, .int .u8 0, .int .u8 0, .int .u8 0, .int .u8 0, .int .u8 0, .int .u8 0, .int .u8 0, .int .u8 0, .int .u8 0, .int .u8 0, .int .u8 0, .int .u8 0, .int .u8 0, .int .u8 0, .int .u8 0, .int .u8 0, .int .u8 0, .int .u8 0, .int .u8 0, .int .u8 0, .int .u8 0, .int .u8 0, .int .u8 0, .int .u8 0, .int .u8 0, .int .u8 0, .int .u8 0, .int .u8 0, .int .u8 0, .int .u8 0, .int .u8 0, .int .u8 0, .int .u8 0, .int .u8 0, .int .u8 0, .int .u8 0, .int .u8 0, .int .u8 0, .int .u8 0, .int .u8 0, .int .u8 0, .int .u8 0] 48] 1]] (.bool (decide (EnOk { e with wraps := [⟨1, List.replicate 48 0⟩] }))) := hR0
  clear hE0 hR0
  by_cases ho : e.kind = 5
  · rw [enR_ok (hx.2 ho)] at hE
    rw [decide_eq_true (hx.2 ho)] at hR
    refine Run ?_ trivial trivial @anchor9_val trivial trivial trivial MkB.ok RowB.ok trivial @wpCs_wk trivial trivial
    rfl
  · rw [enR_no (fun h => ho (hx.1 h))] at hE
    rw [decide_eq_false (fun h => ho (hx.1 h))] at hR
    refine Run ?_ trivial trivial @anchor9_val trivial trivial trivial MkB.ok RowB.ok trivial @wpCs_wk trivial trivial
    rfl
set_option maxHeartbeats 4000000 in
theorem EntryKinds_law (e : En) (n : Int) (hm : e.wraps.length ≤ 9223372036854775807) : ACalls Try.prog 7 [enA e, .int .i64 n] ⟨[], [], 0⟩ (fun rv _ => rv = .bool true) := by
  have hS := smallE_val e hm
  by_cases hsm : SmallE e
  · rw [decide_eq_true hsm] at hS
    have hR1 := enright_val e hsm.mid
    by_cases hok : EnOk e
    · rw [decide_eq_true hok] at hR1
      by_cases h0 : n < 0
      · refine ACalls_body Try.func7 rfl rfl ?_
        simp only [Try.ntmps7, List.length_cons, List.length_nil, Nat.reduceAdd, Nat.reduceSub, List.replicate_succ, List.replicate_zero, List.cons_append, List.nil_append]
        refine Run ?_ trivial trivial @anchor9_val trivial trivial trivial trivial trivial trivial trivial trivial trivial
        rfl
      · by_cases h5 : 5 < n
        · refine ACalls_body Try.func7 rfl rfl ?_
          simp only [Try.ntmps7, List.length_cons, List.length_nil, Nat.reduceAdd, Nat.reduceSub, List.replicate_succ, List.replicate_zero, List.cons_append, List.nil_append]
          refine Run ?_ trivial trivial @anchor9_val trivial trivial trivial trivial trivial trivial trivial trivial trivial
          rfl
        · rcases (show n = 0 ∨ n = 1 ∨ n = 2 ∨ n = 3 ∨ n = 4 ∨ n = 5 by omega) with rfl | rfl | rfl | rfl | rfl | rfl
          · exact EntryKinds_0 e hm hsm hok
          · exact EntryKinds_1 e hm hsm hok
          · exact EntryKinds_2 e hm hsm hok
          · exact EntryKinds_3 e hm hsm hok
          · exact EntryKinds_4 e hm hsm hok
          · exact EntryKinds_5 e hm hsm hok
    · rw [decide_eq_false hok] at hR1
      refine ACalls_body Try.func7 rfl rfl ?_
      simp only [Try.ntmps7, List.length_cons, List.length_nil, Nat.reduceAdd, Nat.reduceSub, List.replicate_succ, List.replicate_zero, List.cons_append, List.nil_append]
      refine Run ?_ trivial trivial @anchor9_val trivial trivial trivial trivial trivial trivial trivial trivial trivial
      rfl
  · rw [decide_eq_false hsm] at hS
    refine ACalls_body Try.func7 rfl rfl ?_
    simp only [Try.ntmps7, List.length_cons, List.length_nil, Nat.reduceAdd, Nat.reduceSub, List.replicate_succ, List.replicate_zero, List.cons_append, List.nil_append]
    refine Run ?_ trivial trivial @anchor9_val trivial trivial trivial trivial trivial trivial trivial trivial trivial
    rfl
theorem EntryKinds_walk (w : World) (cs : Array Value) (e : En) (hf : REn w cs.toList e) (n : Int) (hn : (Lit.int .i64 n).wf = true) : Calls Try.prog 7 #[.agg cs, .int .i64 n] w (Tells w true) := (EntryKinds_law e n hf.wraps).tells (.cons hf.agg (.one Reps_int))
end Go.Proofs.Ytaffpkogcpkmjaa
