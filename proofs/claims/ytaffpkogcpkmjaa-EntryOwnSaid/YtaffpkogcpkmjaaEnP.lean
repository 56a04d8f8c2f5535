/- Plain laws of entries: what is written is read, what is read was written. -/
import Derived.Test.YtaffpkogcpkmjaaRdP
import Derived.Test.YtaffpkogcpkmjaaEnD
import Derived.Test.YtaffpkogcpkmjaaRfE2
namespace Go.Proofs.Ytaffpkogcpkmjaa
open Go.RowKit
set_option linter.unusedVariables false
set_option linter.unusedSimpArgs false
def wpB (w : Wp) : List UInt8 := numB w.who.toNat ++ textB w.box
theorem rwraps_fwd : ∀ (ws : List Wp) (r : List UInt8), (∀ w ∈ ws, 1 ≤ w.who ∧ w.who ≤ 16 ∧ w.box.length = 48) → rwraps ws.length (ws.flatMap wpB ++ r, false) = (ws, (r, false))
  | [], r, _ => rfl
  | w :: ws, r, h => by
    have h1 := h w (List.mem_cons_self ..)
    have ih := rwraps_fwd ws r (fun b hb => h b (List.mem_cons_of_mem _ hb))
    obtain ⟨who, box⟩ := w
    dsimp only at h1
    obtain ⟨n, rfl⟩ := Int.eq_ofNat_of_zero_le (show 0 ≤ who by omega)
    simp only [List.length_cons, List.flatMap_cons, List.append_assoc, wpB, Int.toNat_natCast]
    unfold rwraps
    rw [if_neg (by simp), rnum_fwd (by omega) (by omega) (by omega)]
    dsimp only
    rw [rtext_fwd (by omega) (by omega) (by omega)]
    dsimp only
    have e : (List.flatMap (fun w => numB w.who.toNat ++ textB w.box) ws) = ws.flatMap wpB := rfl
    rw [ih]
theorem rwraps_inv : ∀ {n : Nat} {s : RS}, (rwraps n s).2.2 = false → s.2 = false ∧ ∃ (ws : List Wp) (r : List UInt8), ws.length = n ∧ s.1 = ws.flatMap wpB ++ r ∧ rwraps n s = (ws, (r, false))
  | 0, s, h => by
    have h' : s.2 = false := h
    refine ⟨h', [], s.1, rfl, rfl, ?_⟩
    show ([], s) = _
    rw [← h']
  | n + 1, s, h => by
    unfold rwraps at h
    split at h
    · rename_i hs; rw [hs] at h; cases h
    · rename_i hs
      dsimp only at h
      obtain ⟨h1, ws, r, h2, h4, h5⟩ := rwraps_inv h
      obtain ⟨g1, t, r', g2, g3, g4, g5, g6⟩ := rtext_inv h1
      obtain ⟨k1, m, r2, k2, k3, k4, k5, k6⟩ := rnum_inv g1
      rw [g6] at h4 h5
      rw [k6] at g2 g6
      dsimp only at h4 g2
      refine ⟨k1, ⟨m, t⟩ :: ws, r, by simp [h2], ?_, ?_⟩
      · rw [k2, g2, h4, List.flatMap_cons]
        simp [wpB]
      · unfold rwraps
        rw [if_neg hs, k6, g6, h5]
theorem putB_wraps (ws : List Wp) : putB (ws.flatMap wpP) = ws.flatMap wpB := by
  induction ws with
  | nil => rfl
  | cons w ws ih =>
    rw [List.flatMap_cons, List.flatMap_cons, ← ih]
    simp [putB, wpP, wpB, ptB]
theorem enHead {k w s : Nat} (hk : 1 ≤ k ∧ k ≤ 5) (hw : 1 ≤ w ∧ w ≤ 16) (hs : 1 ≤ s ∧ s ≤ 1099511627776) (r : List UInt8) :
    (enS1 (numB k ++ (numB w ++ (numB s ++ r)))).1 = (k : Int) ∧ (enS2 (numB k ++ (numB w ++ (numB s ++ r)))).1 = (w : Int) ∧ enS3 (numB k ++ (numB w ++ (numB s ++ r))) = ((s : Int), (r, false)) := by
  have e1 : enS1 (numB k ++ (numB w ++ (numB s ++ r))) = ((k : Int), (numB w ++ (numB s ++ r), false)) := rnum_fwd (by omega) (by omega) (by omega) _
  generalize numB k ++ (numB w ++ (numB s ++ r)) = b at *
  have e2 : enS2 b = ((w : Int), (numB s ++ r, false)) := by
    unfold enS2; rw [e1]; exact rnum_fwd (by omega) (by omega) (by omega) _
  have e3 : enS3 b = ((s : Int), (r, false)) := by
    unfold enS3; rw [e2]; exact rnum_fwd (by omega) (by omega) (by omega) _
  exact ⟨by rw [e1], by rw [e2], e3⟩
theorem enHead_inv {b : List UInt8} (h : (enS3 b).2.2 = false) : ∃ (k w s : Nat) (r : List UInt8), (enS1 b).1 = (k : Int) ∧ (enS2 b).1 = (w : Int) ∧ enS3 b = ((s : Int), (r, false)) ∧ b = numB k ++ (numB w ++ (numB s ++ r)) := by
  obtain ⟨b1, n3, s3, b2, b3, b4, b5, b6⟩ := rnum_inv (show (rnum 1 1099511627776 (enS2 b).2).2.2 = false from h)
  obtain ⟨c1, n2, s2, c2, c3, c4, c5, c6⟩ := rnum_inv (show (rnum 1 16 (enS1 b).2).2.2 = false from b1)
  obtain ⟨d1, n1, s1, d2, d3, d4, d5, d6⟩ := rnum_inv (show (rnum 1 5 (b, false)).2.2 = false from c1)
  have e1 : enS1 b = ((n1 : Int), (s1, false)) := d6
  have e2 : enS2 b = ((n2 : Int), (s2, false)) := c6
  have e3 : enS3 b = ((n3 : Int), (s3, false)) := b6
  rw [e1] at c2; rw [e2] at b2
  dsimp only at c2 b2 d2
  exact ⟨n1, n2, n3, s3, by rw [e1], by rw [e2], e3, by rw [d2, c2, b2]⟩
theorem nat_of (n : Int) (h : 0 ≤ n) : ∃ m : Nat, n = (m : Int) := Int.eq_ofNat_of_zero_le h
theorem en_fwd {e : En} (h : EnOk e) (r : List UInt8) : enF (enB e ++ r) = (e, (r, false)) := by
  obtain ⟨k, w, s, nm, vl, wh, rt, ep, ws⟩ := e
  have hk1 : 1 ≤ k := h.1
  have hk5 : k ≤ 5 := h.2.1
  rcases (show k = 1 ∨ k = 2 ∨ k = 3 ∨ k = 4 ∨ k = 5 by omega) with rfl | rfl | rfl | rfl | rfl
  · obtain ⟨a1, a2, a3, a4, rfl, rfl, rfl, a8, a9, a10, a11⟩ := (enok1 ..).1 h
    obtain rfl := List.eq_nil_of_length_eq_zero a8
    obtain ⟨w, rfl⟩ := nat_of w (by omega)
    obtain ⟨s, rfl⟩ := nat_of s (by omega)
    have hB : enB ⟨1, w, s, nm, vl, 0, 0, 0, []⟩ ++ r = numB 1 ++ (numB w ++ (numB s ++ (textB nm ++ (textB vl ++ r)))) := by
      simp [enB, enP, enP0, enP1, putB, ptB]
    obtain ⟨e1, e2, e3⟩ := enHead (k := 1) (w := w) (s := s) (by omega) (by omega) (by omega) (textB nm ++ (textB vl ++ r))
    rw [hB]
    generalize numB 1 ++ (numB w ++ (numB s ++ (textB nm ++ (textB vl ++ r)))) = b at *
    have t1 : enT1 b = (nm, (textB vl ++ r, false)) := by unfold enT1; rw [e3]; exact rtext_fwd (by omega) (by omega) (by omega) _
    have t2 : enT2 b = (vl, (r, false)) := by unfold enT2; rw [t1]; exact rtext_fwd (by omega) (by omega) (by omega) _
    unfold enF
    rw [if_pos (by omega), e1, e2, e3, t1, t2]
    rfl
  · obtain ⟨a1, a2, a3, a4, rfl, rfl, rfl, a8, a9, a10, a11⟩ := (enok2 ..).1 h
    obtain rfl := List.eq_nil_of_length_eq_zero a8
    obtain rfl := List.eq_nil_of_length_eq_zero a11
    obtain ⟨w, rfl⟩ := nat_of w (by omega)
    obtain ⟨s, rfl⟩ := nat_of s (by omega)
    have hB : enB ⟨2, w, s, nm, [], 0, 0, 0, []⟩ ++ r = numB 2 ++ (numB w ++ (numB s ++ (textB nm ++ r))) := by
      simp [enB, enP, enP0, enP1, putB, ptB]
    obtain ⟨e1, e2, e3⟩ := enHead (k := 2) (w := w) (s := s) (by omega) (by omega) (by omega) (textB nm ++ r)
    rw [hB]
    generalize numB 2 ++ (numB w ++ (numB s ++ (textB nm ++ r))) = b at *
    have t1 : enT1 b = (nm, (r, false)) := by unfold enT1; rw [e3]; exact rtext_fwd (by omega) (by omega) (by omega) _
    unfold enF
    rw [if_neg (by omega), if_pos (by omega), e1, e2, e3, t1]
    rfl
  · obtain ⟨a1, a2, a3, a4, a5, a6, rfl, a8, a9, a10, a11, a12⟩ := (enok3 ..).1 h
    obtain rfl := List.eq_nil_of_length_eq_zero a8
    obtain rfl := List.eq_nil_of_length_eq_zero a5
    obtain rfl := List.eq_nil_of_length_eq_zero a6
    obtain ⟨w, rfl⟩ := nat_of w (by omega)
    obtain ⟨s, rfl⟩ := nat_of s (by omega)
    obtain ⟨wh, rfl⟩ := nat_of wh (by omega)
    obtain ⟨rt, rfl⟩ := nat_of rt (by omega)
    have hB : enB ⟨3, w, s, [], [], wh, rt, 0, []⟩ ++ r = numB 3 ++ (numB w ++ (numB s ++ (numB wh ++ (numB rt ++ r)))) := by
      simp [enB, enP, enP0, enP1, putB, ptB]
    obtain ⟨e1, e2, e3⟩ := enHead (k := 3) (w := w) (s := s) (by omega) (by omega) (by omega) (numB wh ++ (numB rt ++ r))
    rw [hB]
    generalize numB 3 ++ (numB w ++ (numB s ++ (numB wh ++ (numB rt ++ r)))) = b at *
    have t1 : enW1 b = ((wh : Int), (numB rt ++ r, false)) := by unfold enW1; rw [e3]; exact rnum_fwd (by omega) (by omega) (by omega) _
    have t2 : enW2 b = ((rt : Int), (r, false)) := by unfold enW2; rw [t1]; exact rnum_fwd (by omega) (by omega) (by omega) _
    unfold enF
    rw [if_neg (by omega), if_neg (by omega), if_pos (by omega), e1, e2, e3, t1, t2]
    rfl
  · obtain ⟨a1, a2, a3, a4, a5, a6, rfl, rfl, a9, a10, a11⟩ := (enok4 ..).1 h
    obtain rfl := List.eq_nil_of_length_eq_zero a9
    obtain rfl := List.eq_nil_of_length_eq_zero a5
    obtain rfl := List.eq_nil_of_length_eq_zero a6
    obtain ⟨w, rfl⟩ := nat_of w (by omega)
    obtain ⟨s, rfl⟩ := nat_of s (by omega)
    obtain ⟨wh, rfl⟩ := nat_of wh (by omega)
    have hB : enB ⟨4, w, s, [], [], wh, 0, 0, []⟩ ++ r = numB 4 ++ (numB w ++ (numB s ++ (numB wh ++ r))) := by
      simp [enB, enP, enP0, enP1, putB, ptB]
    obtain ⟨e1, e2, e3⟩ := enHead (k := 4) (w := w) (s := s) (by omega) (by omega) (by omega) (numB wh ++ r)
    rw [hB]
    generalize numB 4 ++ (numB w ++ (numB s ++ (numB wh ++ r))) = b at *
    have t1 : enW1 b = ((wh : Int), (r, false)) := by unfold enW1; rw [e3]; exact rnum_fwd (by omega) (by omega) (by omega) _
    unfold enF
    rw [if_neg (by omega), if_neg (by omega), if_neg (by omega), if_pos (by omega), e1, e2, e3, t1]
    rfl
  · obtain ⟨a1, a2, a3, a4, a5, a6, rfl, rfl, a9, a10, a11⟩ := (enok5 ..).1 h
    obtain rfl := List.eq_nil_of_length_eq_zero a5
    obtain rfl := List.eq_nil_of_length_eq_zero a6
    obtain ⟨w, rfl⟩ := nat_of w (by omega)
    obtain ⟨s, rfl⟩ := nat_of s (by omega)
    obtain ⟨ep, rfl⟩ := nat_of ep (by omega)
    have hB : enB ⟨5, w, s, [], [], 0, 0, ep, ws⟩ ++ r = numB 5 ++ (numB w ++ (numB s ++ (numB ep ++ (numB ws.length ++ (ws.flatMap wpB ++ r))))) := by
      rw [← putB_wraps]
      simp [enB, enP, enP0, enP1, putB, ptB]
    obtain ⟨e1, e2, e3⟩ := enHead (k := 5) (w := w) (s := s) (by omega) (by omega) (by omega) (numB ep ++ (numB ws.length ++ (ws.flatMap wpB ++ r)))
    rw [hB]
    generalize numB 5 ++ (numB w ++ (numB s ++ (numB ep ++ (numB ws.length ++ (ws.flatMap wpB ++ r))))) = b at *
    have t1 : enE1 b = ((ep : Int), (numB ws.length ++ (ws.flatMap wpB ++ r), false)) := by unfold enE1; rw [e3]; exact rnum_fwd (by omega) (by omega) (by omega) _
    have hwl := a11.2
    have t2 : enE2 b = ((ws.length : Int), (ws.flatMap wpB ++ r, false)) := by unfold enE2; rw [t1]; exact rnum_fwd (by omega) (by omega) (by omega) _
    have t3 : enE3 b = (ws, (r, false)) := by
      unfold enE3
      rw [t2]
      exact rwraps_fwd ws r a11.each
    unfold enF
    rw [if_neg (by omega), if_neg (by omega), if_neg (by omega), if_neg (by omega), if_pos (by omega), e1, e2, e3, t1, t3]
    rfl
theorem en_ok {e : En} (h : EnOk e) : enOk (enB e) ∧ (enF (enB e)).1 = e := by
  have := en_fwd h []
  rw [List.append_nil] at this
  exact ⟨⟨by rw [this], by rw [this], by rw [this]; exact h⟩, by rw [this]⟩
theorem en_inv {b : List UInt8} (h : enOk b) : enB (enF b).1 = b := by
  obtain ⟨h1, h2, h3⟩ := h
  by_cases k1 : (enS1 b).1 = 1
  · have hF : enF b = (⟨(enS1 b).1, (enS2 b).1, (enS3 b).1, (enT1 b).1, (enT2 b).1, 0, 0, 0, []⟩, (enT2 b).2) := by unfold enF; rw [if_pos k1]
    rw [hF] at h1 h2 h3 ⊢
    dsimp only at h1 h2
    obtain ⟨p1, v, r2, p2, p3, p4, p5, p6⟩ := rtext_inv (show (rtext 0 512 (enT1 b).2).2.2 = false from h1)
    obtain ⟨q1, t, r1, q2, q3, q4, q5, q6⟩ := rtext_inv (show (rtext 1 64 (enS3 b).2).2.2 = false from p1)
    obtain ⟨k, w, s, r, e1, e2, e3, e4⟩ := enHead_inv q1
    have t1 : enT1 b = (t, (r1, false)) := q6
    have t2 : enT2 b = (v, (r2, false)) := p6
    rw [t1] at p2; rw [e3] at q2; rw [t2] at h2
    dsimp only at p2 q2 h2
    rw [e1, e2, e3, t1, t2]
    rw [e1] at k1
    obtain rfl : k = 1 := by omega
    conv => rhs; rw [e4, q2, p2, h2]
    simp [enB, enP, enP0, enP1, putB, ptB]
  by_cases k2 : (enS1 b).1 = 2
  · have hF : enF b = (⟨(enS1 b).1, (enS2 b).1, (enS3 b).1, (enT1 b).1, [], 0, 0, 0, []⟩, (enT1 b).2) := by unfold enF; rw [if_neg k1, if_pos k2]
    rw [hF] at h1 h2 h3 ⊢
    dsimp only at h1 h2
    obtain ⟨q1, t, r1, q2, q3, q4, q5, q6⟩ := rtext_inv (show (rtext 1 64 (enS3 b).2).2.2 = false from h1)
    obtain ⟨k, w, s, r, e1, e2, e3, e4⟩ := enHead_inv q1
    have t1 : enT1 b = (t, (r1, false)) := q6
    rw [e3] at q2; rw [t1] at h2
    dsimp only at q2 h2
    rw [e1, e2, e3, t1]
    rw [e1] at k2
    obtain rfl : k = 2 := by omega
    conv => rhs; rw [e4, q2, h2]
    simp [enB, enP, enP0, enP1, putB, ptB]
  by_cases k3 : (enS1 b).1 = 3
  · have hF : enF b = (⟨(enS1 b).1, (enS2 b).1, (enS3 b).1, [], [], (enW1 b).1, (enW2 b).1, 0, []⟩, (enW2 b).2) := by unfold enF; rw [if_neg k1, if_neg k2, if_pos k3]
    rw [hF] at h1 h2 h3 ⊢
    dsimp only at h1 h2
    obtain ⟨p1, v, r2, p2, p3, p4, p5, p6⟩ := rnum_inv (show (rnum 1 7 (enW1 b).2).2.2 = false from h1)
    obtain ⟨q1, t, r1, q2, q3, q4, q5, q6⟩ := rnum_inv (show (rnum 1 16 (enS3 b).2).2.2 = false from p1)
    obtain ⟨k, w, s, r, e1, e2, e3, e4⟩ := enHead_inv q1
    have t1 : enW1 b = ((t : Int), (r1, false)) := q6
    have t2 : enW2 b = ((v : Int), (r2, false)) := p6
    rw [t1] at p2; rw [e3] at q2; rw [t2] at h2
    dsimp only at p2 q2 h2
    rw [e1, e2, e3, t1, t2]
    rw [e1] at k3
    obtain rfl : k = 3 := by omega
    conv => rhs; rw [e4, q2, p2, h2]
    simp [enB, enP, enP0, enP1, putB, ptB]
  by_cases k4 : (enS1 b).1 = 4
  · have hF : enF b = (⟨(enS1 b).1, (enS2 b).1, (enS3 b).1, [], [], (enW1 b).1, 0, 0, []⟩, (enW1 b).2) := by unfold enF; rw [if_neg k1, if_neg k2, if_neg k3, if_pos k4]
    rw [hF] at h1 h2 h3 ⊢
    dsimp only at h1 h2
    obtain ⟨q1, t, r1, q2, q3, q4, q5, q6⟩ := rnum_inv (show (rnum 1 16 (enS3 b).2).2.2 = false from h1)
    obtain ⟨k, w, s, r, e1, e2, e3, e4⟩ := enHead_inv q1
    have t1 : enW1 b = ((t : Int), (r1, false)) := q6
    rw [e3] at q2; rw [t1] at h2
    dsimp only at q2 h2
    rw [e1, e2, e3, t1]
    rw [e1] at k4
    obtain rfl : k = 4 := by omega
    conv => rhs; rw [e4, q2, h2]
    simp [enB, enP, enP0, enP1, putB, ptB]
  by_cases k5 : (enS1 b).1 = 5
  · have hF : enF b = (⟨(enS1 b).1, (enS2 b).1, (enS3 b).1, [], [], 0, 0, (enE1 b).1, (enE3 b).1⟩, (enE3 b).2) := by unfold enF; rw [if_neg k1, if_neg k2, if_neg k3, if_neg k4, if_pos k5]
    rw [hF] at h1 h2 h3 ⊢
    dsimp only at h1 h2
    obtain ⟨o1, ws, r3, o2, o3, o4⟩ := rwraps_inv (show (rwraps (enE2 b).1.toNat (enE2 b).2).2.2 = false from h1)
    obtain ⟨p1, v, r2, p2, p3, p4, p5, p6⟩ := rnum_inv (show (rnum 0 16 (enE1 b).2).2.2 = false from o1)
    obtain ⟨q1, t, r1, q2, q3, q4, q5, q6⟩ := rnum_inv (show (rnum 1 16 (enS3 b).2).2.2 = false from p1)
    obtain ⟨k, w, s, r, e1, e2, e3, e4⟩ := enHead_inv q1
    have t1 : enE1 b = ((t : Int), (r1, false)) := q6
    have t2 : enE2 b = ((v : Int), (r2, false)) := p6
    have t3 : enE3 b = (ws, (r3, false)) := o4
    rw [t1] at p2; rw [e3] at q2; rw [t2] at o3 o2; rw [t3] at h2
    dsimp only at p2 q2 h2 o3 o2
    rw [e1, e2, e3, t1, t3]
    rw [e1] at k5
    obtain rfl : k = 5 := by omega
    have hn : ws.length = v := by rw [o2]; rfl
    conv => rhs; rw [e4, q2, p2, o3, h2, ← hn, ← putB_wraps]
    simp [enB, enP, enP0, enP1, putB, ptB]
  · have hF : enF b = (⟨(enS1 b).1, (enS2 b).1, (enS3 b).1, [], [], 0, 0, 0, []⟩, (enS3 b).2) := by unfold enF; rw [if_neg k1, if_neg k2, if_neg k3, if_neg k4, if_neg k5]
    rw [hF] at h3
    exact absurd h3 (enok0 _ k1 k2 k3 k4 k5)
theorem enB_inj {a b : En} (ha : EnOk a) (hb : EnOk b) : enB a = enB b ↔ a = b := ⟨fun h => by rw [← (en_ok ha).2, h, (en_ok hb).2], fun h => by rw [h]⟩
/-- What stands behind an entry's bytes makes them none. -/
theorem en_more {e : En} (h : EnOk e) (r : List UInt8) : enOk (enB e ++ r) ↔ r = [] := by
  have h1 := en_fwd h r
  constructor
  · rintro ⟨_, h2, _⟩; rw [h1] at h2; exact h2
  · rintro rfl; rw [List.append_nil]; exact (en_ok h).1
/-- A beginning of an entry's bytes is none. -/
theorem en_cut {e : En} (h : EnOk e) {p r : List UInt8} (he : enB e = p ++ r) (hr : r ≠ []) : ¬ enOk p := by
  intro hp
  have h1 := en_inv hp
  have h2 := (en_more hp.2.2 r)
  rw [h1, ← he] at h2
  exact hr (h2.1 (en_ok h).1)
theorem zeroE_no : ¬ EnOk zeroE := by rintro ⟨h, _⟩; simp [zeroE] at h
end Go.Proofs.Ytaffpkogcpkmjaa
