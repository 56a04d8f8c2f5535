/- policy: plain laws of members, rights, readers. -/
import Derived.Test.YtaffpkogcpkmjaaPoF
namespace Go.Proofs.Ytaffpkogcpkmjaa
open Go.RowKit
set_option linter.unusedVariables false
set_option linter.unusedSimpArgs false
set_option maxRecDepth 10000
def rise : Int → List Mb → Prop
  | _, [] => True
  | lo, m :: r => lo < m.who ∧ m.who ≤ 16 ∧ 1 ≤ m.rights ∧ m.rights ≤ 7 ∧ rise m.who r
def prevL (lo : Int) (ms : List Mb) (k : Nat) : Int := if k = 0 then lo else (ms.getD (k - 1) ⟨0, 0⟩).who
theorem rise_iff : ∀ (ms : List Mb) (lo : Int), (∀ k, k < ms.length → prevL lo ms k < (ms.getD k ⟨0, 0⟩).who ∧ (ms.getD k ⟨0, 0⟩).who ≤ 16 ∧ 1 ≤ (ms.getD k ⟨0, 0⟩).rights ∧ (ms.getD k ⟨0, 0⟩).rights ≤ 7) ↔ rise lo ms
  | [], lo => by simp [rise]
  | m :: r, lo => by
    unfold rise
    rw [← rise_iff r m.who]
    constructor
    · intro h
      have h0 := h 0 (by simp)
      refine ⟨h0.1, h0.2.1, h0.2.2.1, h0.2.2.2, fun k hk => ?_⟩
      have h1 := h (k + 1) (by simp; omega)
      refine ⟨?_, h1.2⟩
      have h2 := h1.1
      unfold prevL at h2 ⊢
      rw [if_neg (by omega), Nat.add_sub_cancel] at h2
      cases k with
      | zero => exact h2
      | succ k => rw [if_neg (by omega), Nat.add_sub_cancel]; exact h2
    · rintro ⟨h1, h2, h3, h4, h5⟩ k hk
      cases k with
      | zero => exact ⟨h1, h2, h3, h4⟩
      | succ k =>
        have h6 := h5 k (by simpa using hk)
        refine ⟨?_, h6.2⟩
        have h7 := h6.1
        unfold prevL at h7 ⊢
        rw [if_neg (by omega), Nat.add_sub_cancel]
        cases k with
        | zero => exact h7
        | succ k => rw [if_neg (by omega), Nat.add_sub_cancel] at h7; exact h7
theorem MbOk_iff (ms : List Mb) : MbOk ms ↔ rise 0 ms := rise_iff ms 0
theorem rise.mono : ∀ {ms : List Mb} {a lo : Int}, rise a ms → lo ≤ a → rise lo ms
  | [], _, _, _, _ => trivial
  | m :: r, a, lo, h, hl => ⟨by have := h.1; omega, h.2⟩
theorem rise.len : ∀ {ms : List Mb} {lo : Int}, rise lo ms → lo ≤ 16 → (ms.length : Int) + lo ≤ 16
  | [], lo, _, h => by simpa using h
  | m :: r, lo, h, hl => by
    have := rise.len h.2.2.2.2 h.2.1
    have := h.1
    simp only [List.length_cons]
    omega
theorem rise.low : ∀ {ms : List Mb} {lo w : Int}, rise lo ms → w ≤ lo → rightsOf ms w = 0
  | [], _, _, _, _ => rfl
  | m :: r, lo, w, h, hw => by
    unfold rightsOf
    rw [if_neg (by have := h.1; omega)]
    exact rise.low h.2.2.2.2 (by have := h.1; omega)
theorem rise.high : ∀ {ms : List Mb} {lo w : Int}, rise lo ms → 16 < w → rightsOf ms w = 0
  | [], _, _, _, _ => rfl
  | m :: r, lo, w, h, hw => by
    unfold rightsOf
    rw [if_neg (by have := h.2.1; omega)]
    exact rise.high h.2.2.2.2 hw
def setR : List Mb → Int → Int → List Mb
  | [], w, r => [⟨w, r⟩]
  | m :: ms, w, r => if w < m.who then ⟨w, r⟩ :: m :: ms else if m.who = w then ⟨w, r⟩ :: ms else m :: setR ms w r
def delR : List Mb → Int → List Mb
  | [], w => []
  | m :: ms, w => if w < m.who then m :: ms else if m.who = w then ms else m :: delR ms w
theorem idxF_cons (m : Mb) (ms : List Mb) (w : Int) : idxF (m :: ms) w = if w ≤ m.who then 0 else idxF ms w + 1 := rfl
theorem There_cons (m : Mb) (ms : List Mb) (w : Int) (h : ¬ w ≤ m.who) : There (m :: ms) w ↔ There ms w := by
  unfold There
  rw [idxF_cons, if_neg h]
  simp
theorem setM_eq : ∀ (ms : List Mb) (w r : Int), setM ms w r = setR ms w r
  | [], w, r => by simp [setM, There, idxF, setR]
  | m :: ms, w, r => by
    have ih := setM_eq ms w r
    unfold setR
    by_cases h1 : w < m.who
    · rw [if_pos h1]
      unfold setM
      have hi : idxF (m :: ms) w = 0 := by rw [idxF_cons, if_pos (by omega)]
      rw [if_neg (by unfold There; rw [hi]; rintro ⟨_, h⟩; simp at h; omega), hi]
      rfl
    · rw [if_neg h1]
      by_cases h2 : m.who = w
      · rw [if_pos h2]
        unfold setM
        have hi : idxF (m :: ms) w = 0 := by rw [idxF_cons, if_pos (by omega)]
        rw [if_pos (by unfold There; rw [hi]; exact ⟨by simp, by simpa using h2⟩), hi]
        rfl
      · rw [if_neg h2, ← ih]
        unfold setM
        have hi : idxF (m :: ms) w = idxF ms w + 1 := by rw [idxF_cons, if_neg (by omega)]
        have ht := There_cons m ms w (by omega)
        by_cases h3 : There ms w
        · rw [if_pos h3, if_pos (ht.2 h3), hi]; rfl
        · rw [if_neg h3, if_neg (fun h => h3 (ht.1 h)), hi]; rfl
theorem delM_eq : ∀ (ms : List Mb) (w : Int), delM ms w = delR ms w
  | [], w => by simp [delM, delR]
  | m :: ms, w => by
    have ih := delM_eq ms w
    unfold delR
    by_cases h1 : w < m.who
    · rw [if_pos h1]
      unfold delM
      have hi : idxF (m :: ms) w = 0 := by rw [idxF_cons, if_pos (by omega)]
      rw [if_neg (by unfold There; rw [hi]; rintro ⟨_, h⟩; simp at h; omega)]
    · rw [if_neg h1]
      by_cases h2 : m.who = w
      · rw [if_pos h2]
        unfold delM
        have hi : idxF (m :: ms) w = 0 := by rw [idxF_cons, if_pos (by omega)]
        rw [if_pos (by unfold There; rw [hi]; exact ⟨by simp, by simpa using h2⟩), hi]
        rfl
      · rw [if_neg h2, ← ih]
        unfold delM
        have hi : idxF (m :: ms) w = idxF ms w + 1 := by rw [idxF_cons, if_neg (by omega)]
        have ht := There_cons m ms w (by omega)
        by_cases h3 : There ms w
        · rw [if_pos h3, if_pos (ht.2 h3), hi]; rfl
        · rw [if_neg h3, if_neg (fun h => h3 (ht.1 h))]
theorem rights_set : ∀ (ms : List Mb) (w r v : Int), rightsOf (setR ms w r) v = if v = w then r else rightsOf ms v
  | [], w, r, v => by simp only [setR, rightsOf]; by_cases h : v = w <;> simp [h]; intro h2; exact absurd h2.symm h
  | m :: ms, w, r, v => by
    have ih := rights_set ms w r v
    unfold setR
    by_cases h1 : w < m.who
    · rw [if_pos h1]
      by_cases hv : v = w
      · subst hv; simp [rightsOf]
      · rw [if_neg hv]; simp only [rightsOf]; rw [if_neg (fun h => hv h.symm)]
    · rw [if_neg h1]
      by_cases h2 : m.who = w
      · rw [if_pos h2]
        by_cases hv : v = w
        · subst hv; simp [rightsOf]
        · rw [if_neg hv]; simp only [rightsOf]; rw [if_neg (fun h => hv h.symm), if_neg (fun h => hv (by omega))]
      · rw [if_neg h2]
        simp only [rightsOf]
        rw [ih]
        by_cases hv : v = w
        · subst hv; rw [if_pos rfl, if_neg h2, if_pos rfl]
        · rw [if_neg hv, if_neg hv]
theorem rights_del : ∀ {ms : List Mb} {lo : Int} (w v : Int), rise lo ms → rightsOf (delR ms w) v = if v = w then 0 else rightsOf ms v
  | [], lo, w, v, _ => by simp [delR, rightsOf]
  | m :: ms, lo, w, v, h => by
    have ih := rights_del w v h.2.2.2.2
    unfold delR
    by_cases h1 : w < m.who
    · rw [if_pos h1]
      by_cases hv : v = w
      · subst hv
        rw [if_pos rfl]
        exact rise.low (lo := m.who - 1) ⟨by omega, h.2⟩ (by omega)
      · rw [if_neg hv]
    · rw [if_neg h1]
      by_cases h2 : m.who = w
      · rw [if_pos h2]
        by_cases hv : v = w
        · subst hv; rw [if_pos rfl]; exact rise.low h.2.2.2.2 (by omega)
        · rw [if_neg hv]; simp only [rightsOf]; rw [if_neg (fun h => hv (by omega))]
      · rw [if_neg h2]
        simp only [rightsOf]
        rw [ih]
        by_cases hv : v = w
        · subst hv; rw [if_pos rfl, if_neg h2, if_pos rfl]
        · rw [if_neg hv, if_neg hv]
theorem rise_set : ∀ {ms : List Mb} {lo : Int} (w r : Int), rise lo ms → lo < w → w ≤ 16 → 1 ≤ r → r ≤ 7 → rise lo (setR ms w r)
  | [], lo, w, r, _, h1, h2, h3, h4 => ⟨h1, h2, h3, h4, trivial⟩
  | m :: ms, lo, w, r, h, h1, h2, h3, h4 => by
    unfold setR
    by_cases g1 : w < m.who
    · rw [if_pos g1]; exact ⟨h1, h2, h3, h4, g1, h.2⟩
    · rw [if_neg g1]
      by_cases g2 : m.who = w
      · rw [if_pos g2]; exact ⟨h1, h2, h3, h4, by rw [← g2]; exact h.2.2.2.2⟩
      · rw [if_neg g2]; exact ⟨h.1, h.2.1, h.2.2.1, h.2.2.2.1, rise_set w r h.2.2.2.2 (by omega) h2 h3 h4⟩
theorem rise_del : ∀ {ms : List Mb} {lo : Int} (w : Int), rise lo ms → rise lo (delR ms w)
  | [], lo, w, _ => trivial
  | m :: ms, lo, w, h => by
    unfold delR
    by_cases g1 : w < m.who
    · rw [if_pos g1]; exact h
    · rw [if_neg g1]
      by_cases g2 : m.who = w
      · rw [if_pos g2]; exact rise.mono h.2.2.2.2 (by have := h.1; omega)
      · rw [if_neg g2]; exact ⟨h.1, h.2.1, h.2.2.1, h.2.2.2.1, rise_del w h.2.2.2.2⟩
def gApp (g : Int → Int) (e : En) (v : Int) : Int := if e.kind = 3 ∧ v = e.who then e.rights else if e.kind = 4 ∧ v = e.who then 0 else g v
theorem poApp_rights {p : Po} {e : En} (hp : PoOk p) (v : Int) : rightsOf (poApp p e).mem v = gApp (rightsOf p.mem) e v := by
  have hr := (MbOk_iff _).1 hp.1
  unfold poApp gApp
  by_cases k5 : e.kind = 5
  · rw [if_pos k5, if_neg (by omega), if_neg (by omega)]
  · rw [if_neg k5]
    by_cases k4 : e.kind = 4
    · rw [if_pos k4, if_neg (by omega)]
      dsimp only
      rw [delM_eq, rights_del _ _ hr]
      simp [k4]
    · rw [if_neg k4]
      by_cases k3 : e.kind = 3
      · rw [if_pos k3]
        dsimp only
        rw [setM_eq, rights_set]
        simp [k3]
      · rw [if_neg k3, if_neg (fun h => k3 h.1), if_neg (fun h => k4 h.1)]
theorem mayN_founder {p : Po} {e : En} (h : mayN p e = 0) (hk : e.kind = 3 ∨ e.kind = 4) : e.who ≠ p.founder := by
  intro hf
  have h2 := mayN_ok h
  unfold mayN at h
  rw [if_neg (by rw [Classical.not_not]; exact h2), if_neg (by omega), if_pos ⟨by omega, hf⟩] at h
  cases h
theorem poApp_founder (p : Po) (e : En) : (poApp p e).founder = p.founder := by
  unfold poApp; split; rfl; split; rfl; split <;> rfl
theorem poApp_epoch (p : Po) (e : En) : (poApp p e).epoch = if e.kind = 5 then e.epoch else p.epoch := by
  unfold poApp; split; rfl; split; rfl; split <;> rfl
theorem poApp_ok {p : Po} {e : En} (h : mayN p e = 0) : PoOk (poApp p e) := by
  obtain ⟨hp, he⟩ := mayN_ok h
  have hr := (MbOk_iff _).1 hp.1
  obtain ⟨f1, f2, f3, f4, f5, f6, f7, f8, f9, f10, f11⟩ := he
  refine ⟨(MbOk_iff _).2 ?_, ?_, ?_, ?_⟩
  · unfold poApp
    split
    · exact hr
    · split
      · dsimp only; rw [delM_eq]; exact rise_del _ hr
      · split
        · rename_i k3
          have g := f9 k3
          dsimp only; rw [setM_eq]; exact rise_set _ _ hr (by omega) g.2.1 g.2.2.1 g.2.2.2
        · exact hr
  · rw [poApp_epoch]; split
    · rename_i k5; have := (f11 k5).1; omega
    · exact hp.2.1
  · rw [poApp_epoch]; split
    · rename_i k5; exact (f11 k5).2.1
    · exact hp.2.2.1
  · rw [poApp_founder, poApp_rights hp]
    unfold gApp
    rw [if_neg (fun g => mayN_founder h (.inl g.1) g.2.symm), if_neg (fun g => mayN_founder h (.inr g.1) g.2.symm)]
    exact hp.2.2.2
theorem PoOk.len {p : Po} (h : PoOk p) : p.mem.length ≤ 16 := by
  have := rise.len ((MbOk_iff _).1 h.1) (by omega)
  omega
theorem PoOk.founder {p : Po} (h : PoOk p) : 1 ≤ p.founder ∧ p.founder ≤ 16 := by
  have hr := (MbOk_iff _).1 h.1
  have h7 := h.2.2.2
  constructor
  · by_cases g : 1 ≤ p.founder
    · exact g
    · rw [rise.low hr (by omega)] at h7; cases h7
  · by_cases g : p.founder ≤ 16
    · exact g
    · rw [rise.high hr (by omega)] at h7; cases h7
/-- Those from a place on whose rights are odd. -/
def odds (g : Int → Int) : Nat → Int → List Int
  | 0, _ => []
  | k + 1, lo => (if g (lo + 1) % 2 = 1 then [lo + 1] else []) ++ odds g k (lo + 1)
theorem odds_congr {g g' : Int → Int} : ∀ (k : Nat) (lo : Int), (∀ v, lo < v → g v = g' v) → odds g k lo = odds g' k lo
  | 0, _, _ => rfl
  | k + 1, lo, h => by
    unfold odds
    rw [h (lo + 1) (by omega), odds_congr k (lo + 1) fun v hv => h v (by omega)]
theorem odds_readers : ∀ (k : Nat) (lo : Int) (ms : List Mb), rise lo ms → lo + k = 16 → odds (rightsOf ms) k lo = readersOf ms
  | 0, lo, [], _, _ => rfl
  | 0, lo, m :: r, h, hk => by have := h.1; have := h.2.1; omega
  | k + 1, lo, [], h, hk => by
    unfold odds
    rw [odds_readers k (lo + 1) [] trivial (by omega)]
    simp [rightsOf, readersOf]
  | k + 1, lo, m :: r, h, hk => by
    unfold odds
    by_cases h1 : m.who = lo + 1
    · have e1 : rightsOf (m :: r) (lo + 1) = m.rights := by unfold rightsOf; rw [if_pos h1]
      have e2 : odds (rightsOf (m :: r)) k (lo + 1) = odds (rightsOf r) k (lo + 1) := odds_congr _ _ fun v hv => by
        conv => lhs; unfold rightsOf
        rw [if_neg (by omega)]
      rw [e1, e2, odds_readers k (lo + 1) r (h.2.2.2.2.mono (by omega)) (by omega)]
      unfold readersOf oddM
      rw [List.filter_cons]
      by_cases ho : m.rights % 2 = 1
      · rw [if_pos ho, if_pos (by simpa using ho), ← h1]; rfl
      · rw [if_neg ho, if_neg (by simpa using ho)]; rfl
    · have h2 : rise (lo + 1) (m :: r) := ⟨by have := h.1; omega, h.2⟩
      rw [h2.low (Int.le_refl _), odds_readers k (lo + 1) _ h2 (by omega)]
      simp
end Go.Proofs.Ytaffpkogcpkmjaa
