/- entry: Right, Encode, by the abstract machine. -/
import Derived.Test.YtnjkklkjlloedaaEnB
namespace Go.Proofs.Ytnjkklkjlloedaa
open Go.RowKit
set_option linter.unusedVariables false
set_option linter.unusedSimpArgs false
set_option maxRecDepth 10000
/-- An entry is right. -/
def EnOk (e : En) : Prop := 1 ≤ e.kind ∧ e.kind ≤ 5 ∧ 1 ≤ e.writer ∧ e.writer ≤ 16 ∧ 1 ≤ e.seq ∧ e.seq ≤ 1099511627776 ∧ e.same e.bare = true ∧ (e.kind ≤ 2 → 1 ≤ e.name.length ∧ e.name.length ≤ 64 ∧ e.value.length ≤ 512) ∧ (e.kind = 3 → 1 ≤ e.who ∧ e.who ≤ 16 ∧ 1 ≤ e.rights ∧ e.rights ≤ 7) ∧ (e.kind = 4 → 1 ≤ e.who ∧ e.who ≤ 16) ∧ (e.kind = 5 → 1 ≤ e.epoch ∧ e.epoch ≤ 16 ∧ WrOk e.wraps)
instance (e : En) : Decidable (EnOk e) := by unfold EnOk; infer_instance
set_option maxHeartbeats 8000000 in
theorem enright_val (e : En) (hm : e.Mid) : AVal Try.prog 28 [enA e] (.bool (decide (EnOk e))) := by
  refine AVal.mkw (by simp only [AV.shutL, enA_shut, Bool.and_self]) (by simp [AV.shut]) ?_
  refine ACalls_body Try.func28 rfl rfl ?_
  simp only [Try.ntmps28, List.length_cons, List.length_nil, Nat.reduceAdd, Nat.reduceSub, List.replicate_succ, List.replicate_zero, List.cons_append, List.nil_append]
  have h1 := bare_val e
  have h2 := ensame_val e e.bare hm
  have h3 := wraps_val e.wraps (by have := hm.wraps; omega)
  cases hB : e.same e.bare with
  | false =>
    rw [decide_eq_false (fun h => by have := h.2.2.2.2.2.2.1; rw [hB] at this; cases this)]
    rw [hB] at h2
    refine Run trivial trivial trivial @within_val trivial trivial trivial trivial trivial trivial trivial trivial Split.ok
  | true =>
    rw [hB] at h2
    by_cases hw : WrOk e.wraps
    · rw [decide_eq_true hw] at h3
      refine Run trivial trivial trivial @within_val trivial trivial trivial trivial trivial trivial trivial @EnOk.eq_1 Split.ok
    · rw [decide_eq_false hw] at h3
      refine Run trivial trivial trivial @within_val trivial trivial trivial trivial trivial trivial trivial @EnOk.eq_1 Split.ok
theorem EnOk.fields {e : En} (h : EnOk e) : e.name.length ≤ 64 ∧ e.value.length ≤ 512 ∧ 0 ≤ e.who ∧ e.who ≤ 16 ∧ 0 ≤ e.rights ∧ e.rights ≤ 7 ∧ 0 ≤ e.epoch ∧ e.epoch ≤ 16 ∧ WrOk e.wraps := by
  obtain ⟨h1, h2, _, _, _, _, hs, g1, g2, g3, g4⟩ := h
  have hs := (En.same_iff _ _).1 hs
  have hw0 : WrOk [] := by simp [WrOk]
  unfold En.bare at hs
  by_cases k1 : e.kind = 1
  · rw [if_pos k1] at hs
    have := g1 (by omega)
    rw [hs]
    simp only
    exact ⟨by omega, by omega, by omega, by omega, by omega, by omega, by omega, by omega, hw0⟩
  rw [if_neg k1] at hs
  by_cases k2 : e.kind = 2
  · rw [if_pos k2] at hs
    have := g1 (by omega)
    rw [hs]
    simp only [List.length_nil]
    exact ⟨by omega, by omega, by omega, by omega, by omega, by omega, by omega, by omega, hw0⟩
  rw [if_neg k2] at hs
  by_cases k3 : e.kind = 3
  · rw [if_pos k3] at hs
    have := g2 k3
    rw [hs]
    simp only [List.length_nil]
    exact ⟨by omega, by omega, by omega, by omega, by omega, by omega, by omega, by omega, hw0⟩
  rw [if_neg k3] at hs
  by_cases k4 : e.kind = 4
  · rw [if_pos k4] at hs
    have := g3 k4
    rw [hs]
    simp only [List.length_nil]
    exact ⟨by omega, by omega, by omega, by omega, by omega, by omega, by omega, by omega, hw0⟩
  rw [if_neg k4] at hs
  by_cases k5 : e.kind = 5
  · rw [if_pos k5] at hs
    have := g4 k5
    rw [hs]
    simp only [List.length_nil]
    exact ⟨by omega, by omega, by omega, by omega, by omega, by omega, by omega, by omega, this.2.2⟩
  omega
theorem WrOk.each {ws : List Wp} (h : WrOk ws) : ∀ w ∈ ws, 1 ≤ w.who ∧ w.who ≤ 16 ∧ w.box.length = 48 := by
  intro w hw
  obtain ⟨k, hk, rfl⟩ := List.getElem_of_mem hw
  have := h.1 k hk
  rw [getD_of (List.getElem?_eq_getElem hk)] at this
  exact ⟨this.1, this.2.1, this.2.2.1⟩
def wpP (w : Wp) : List Pt := [.inl w.who, .inr w.box]
def enP0 (e : En) : List Pt := [.inl e.kind, .inl e.writer, .inl e.seq]
def enP1 (e : En) : List Pt :=
  if e.kind = 1 then [.inr e.name, .inr e.value]
  else if e.kind = 2 then [.inr e.name]
  else if e.kind = 3 then [.inl e.who, .inl e.rights]
  else if e.kind = 4 then [.inl e.who]
  else [.inl e.epoch, .inl e.wraps.length] ++ e.wraps.flatMap wpP
def enP (e : En) : List Pt := enP0 e ++ enP1 e
def enB (e : En) : List UInt8 := putB (enP e)
theorem EnOk.parts {e : En} (h : EnOk e) : ∀ p ∈ enP e, ptErr p = 0 ∧ ∀ l, p = Sum.inr l → l.length ≤ 1000000 := by
  have hf := h.fields
  obtain ⟨h1, h2, w1, w2, s1, s2, _⟩ := h
  have num : ∀ n : Int, 0 ≤ n → n ≤ 1099511627776 → (ptErr (.inl n) = 0 ∧ ∀ l, (Sum.inl n : Pt) = Sum.inr l → l.length ≤ 1000000) := fun n a b => ⟨by simp only [ptErr]; rw [if_pos ⟨a, b⟩], fun l h => by cases h⟩
  have txt : ∀ t : List UInt8, t.length ≤ 4096 → (ptErr (.inr t) = 0 ∧ ∀ l, (Sum.inr t : Pt) = Sum.inr l → l.length ≤ 1000000) := fun t a => ⟨by simp only [ptErr]; rw [if_pos a], fun l h => by cases h; omega⟩
  intro p hp
  simp only [enP, enP0, enP1, List.mem_append, List.mem_cons, List.not_mem_nil, or_false] at hp
  rcases hp with (rfl | rfl | rfl) | hp
  · exact num _ (by omega) (by omega)
  · exact num _ (by omega) (by omega)
  · exact num _ (by omega) (by omega)
  · split at hp
    · simp only [List.mem_cons, List.not_mem_nil, or_false] at hp
      rcases hp with rfl | rfl
      · exact txt _ (by omega)
      · exact txt _ (by omega)
    · split at hp
      · simp only [List.mem_cons, List.not_mem_nil, or_false] at hp
        subst hp; exact txt _ (by omega)
      · split at hp
        · simp only [List.mem_cons, List.not_mem_nil, or_false] at hp
          rcases hp with rfl | rfl
          · exact num _ (by omega) (by omega)
          · exact num _ (by omega) (by omega)
        · split at hp
          · simp only [List.mem_cons, List.not_mem_nil, or_false] at hp
            subst hp; exact num _ (by omega) (by omega)
          · simp only [List.mem_append, List.mem_cons, List.not_mem_nil, or_false, List.mem_flatMap, wpP] at hp
            have hw := hf.2.2.2.2.2.2.2.2
            rcases hp with (rfl | rfl) | ⟨w, hw', rfl | rfl⟩
            · exact num _ (by omega) (by omega)
            · exact num _ (by omega) (by have := hw.2; omega)
            · have := hw.each w hw'
              exact num _ (by omega) (by omega)
            · have := hw.each w hw'
              exact txt _ (by omega)
theorem EnOk.put {e : En} (h : EnOk e) : putErr (enP e) = 0 := by rw [putErr_ok]; exact fun p hp => (h.parts p hp).1
theorem flatMap_len2 {α β : Type} (f : α → List β) (h : ∀ x, (f x).length = 2) : ∀ l : List α, (l.flatMap f).length = 2 * l.length
  | [] => rfl
  | x :: l => by simp only [List.flatMap_cons, List.length_append, h, flatMap_len2 f h l, List.length_cons]; omega
theorem EnOk.len {e : En} (h : EnOk e) : (enP e).length ≤ 100 := by
  have hw := h.fields.2.2.2.2.2.2.2.2.2
  unfold enP enP0 enP1
  rw [List.length_append]
  split
  · simp
  · split
    · simp
    · split
      · simp
      · split
        · simp
        · have := flatMap_len2 wpP (fun _ => rfl) e.wraps
          simp only [List.length_append, List.length_cons, List.length_nil]
          omega
theorem enput_val {e : En} (h : EnOk e) (own : AOwn) (n : Nat) (hn : (enP e).length = n) : AVal Try.prog 72 [.sl own ((enP e).map ptA) n] (okA (enB e)) := by
  have := put_val (enP e) own n hn (by have := h.len; omega) (fun l hl => (h.parts _ hl).2 l rfl)
  unfold putR at this
  rw [if_pos h.put] at this
  exact this
end Go.Proofs.Ytnjkklkjlloedaa
