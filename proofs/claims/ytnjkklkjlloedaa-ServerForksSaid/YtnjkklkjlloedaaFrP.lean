/- Plain laws of frames: what is written is read, what is read was written. -/
import Derived.Test.YtnjkklkjlloedaaRdP
import Derived.Test.YtnjkklkjlloedaaFrD
namespace Go.Proofs.Ytnjkklkjlloedaa
open Go.RowKit
set_option linter.unusedVariables false
set_option linter.unusedSimpArgs false
theorem rlinks_bad (n : Nat) (l : List UInt8) : rlinks n (l, true) = ([], (l, true)) := by cases n <;> simp [rlinks]
theorem rlinks_fwd : ∀ (ls : List (List UInt8)) (r : List UInt8), (∀ b ∈ ls, 1 ≤ b.length ∧ b.length ≤ 4096) → rlinks ls.length (ls.flatMap textB ++ r, false) = (ls, (r, false))
  | [], r, _ => rfl
  | t :: ls, r, h => by
    have h1 := h t (List.mem_cons_self ..)
    have ih := rlinks_fwd ls r (fun b hb => h b (List.mem_cons_of_mem _ hb))
    simp only [List.length_cons, List.flatMap_cons, List.append_assoc]
    unfold rlinks
    rw [if_neg (by simp), rtext_fwd (by omega) (by omega) (by omega), ih]
theorem rlinks_inv : ∀ {n : Nat} {s : RS}, (rlinks n s).2.2 = false → s.2 = false ∧ ∃ (ls : List (List UInt8)) (r : List UInt8), ls.length = n ∧ (∀ b ∈ ls, 1 ≤ b.length ∧ b.length ≤ 4096) ∧ s.1 = ls.flatMap textB ++ r ∧ rlinks n s = (ls, (r, false))
  | 0, s, h => by
    have h' : s.2 = false := h
    refine ⟨h', [], s.1, rfl, by simp, rfl, ?_⟩
    show ([], s) = _
    rw [← h']
  | n + 1, s, h => by
    unfold rlinks at h
    split at h
    · rename_i hs; rw [hs] at h; cases h
    · rename_i hs
      dsimp only at h
      obtain ⟨h1, ls, r, h2, h3, h4, h5⟩ := rlinks_inv h
      obtain ⟨g1, t, r', g2, g3, g4, g5, g6⟩ := rtext_inv h1
      rw [g6] at h4 h5
      dsimp only at h4
      refine ⟨g1, t :: ls, r, by simp [h2], ?_, ?_, ?_⟩
      · intro b hb
        rcases List.mem_cons.1 hb with rfl | hb
        · omega
        · exact h3 b hb
      · rw [g2, h4, List.flatMap_cons, List.append_assoc]
      · unfold rlinks
        rw [if_neg hs, g6, h5]
theorem frB_eq (f : Fr) : frB f = numB f.kind.toNat ++ numB f.coll.toNat ++ numB f.idx.toNat ++ numB f.links.length ++ f.links.flatMap textB ++ textB f.sum := by
  unfold frB frP putB
  simp [ptB, List.flatMap_map]
theorem dec_fwd {f : Fr} (h : FrOk f) (r : List UInt8) : decF (frB f ++ r) = f ∧ (decS5 (frB f ++ r)).2 = (r, false) := by
  have hl := h.links
  have hs := h.sum
  have hkb : 1 ≤ f.kind ∧ f.kind ≤ 4 := by obtain ⟨_, _, _, _, h | h | h | h⟩ := h <;> (have := h.1; omega)
  obtain ⟨c1, c2, i1, i2, _⟩ := h
  obtain ⟨kind, coll, idx, links, sum⟩ := f
  dsimp only at *
  obtain ⟨kind, rfl⟩ := Int.eq_ofNat_of_zero_le (show 0 ≤ kind by omega)
  obtain ⟨coll, rfl⟩ := Int.eq_ofNat_of_zero_le (show 0 ≤ coll by omega)
  obtain ⟨idx, rfl⟩ := Int.eq_ofNat_of_zero_le i1
  have e : frB ⟨kind, coll, idx, links, sum⟩ ++ r = numB kind ++ (numB coll ++ (numB idx ++ (numB links.length ++ (links.flatMap textB ++ (textB sum ++ r))))) := by
    rw [frB_eq]
    simp only [Int.toNat_natCast, List.append_assoc]
  rw [e]
  have e1 : decS1 (numB kind ++ (numB coll ++ (numB idx ++ (numB links.length ++ (links.flatMap textB ++ (textB sum ++ r)))))) = ((kind : Int), (numB coll ++ (numB idx ++ (numB links.length ++ (links.flatMap textB ++ (textB sum ++ r)))), false)) := rnum_fwd (by omega) (by omega) (by omega) _
  generalize numB kind ++ (numB coll ++ (numB idx ++ (numB links.length ++ (links.flatMap textB ++ (textB sum ++ r))))) = b at *
  have e2 : decS2 b = ((coll : Int), (numB idx ++ (numB links.length ++ (links.flatMap textB ++ (textB sum ++ r))), false)) := by
    unfold decS2; rw [e1]; exact rnum_fwd (by omega) (by omega) (by omega) _
  have e3 : decS3 b = ((idx : Int), (numB links.length ++ (links.flatMap textB ++ (textB sum ++ r)), false)) := by
    unfold decS3; rw [e2]; exact rnum_fwd (by omega) (by omega) (by omega) _
  have e4 : decS4 b = ((links.length : Int), (links.flatMap textB ++ (textB sum ++ r), false)) := by
    unfold decS4; rw [e3]; exact rnum_fwd (by omega) (by omega) (by omega) _
  have e5 : decL b = (links, (textB sum ++ r, false)) := by
    unfold decL; rw [e4]; exact rlinks_fwd links _ hl.2
  have e6 : decS5 b = (sum, (r, false)) := by
    unfold decS5; rw [e5]; exact rtext_fwd (by omega) (by omega) (by omega) _
  refine ⟨?_, by rw [e6]⟩
  unfold decF
  rw [e1, e2, e3, e5, e6]
theorem dec_ok {f : Fr} (h : FrOk f) : decOk (frB f) ∧ decF (frB f) = f := by
  have := dec_fwd h []
  rw [List.append_nil] at this
  exact ⟨⟨by rw [this.2], by rw [this.2], by rw [this.1]; exact h⟩, this.1⟩
theorem dec_inv {b : List UInt8} (h : decOk b) : frB (decF b) = b := by
  obtain ⟨h1, h2, h3⟩ := h
  obtain ⟨q1, t, r5, q2, q3, q4, q5, q6⟩ := rtext_inv (show (rtext 0 32 (decL b).2).2.2 = false from h1)
  obtain ⟨p1, ls, r4, p2, p3, p4, p5⟩ := rlinks_inv (show (rlinks (decS4 b).1.toNat (decS4 b).2).2.2 = false from q1)
  obtain ⟨a1, n4, s4, a2, a3, a4, a5, a6⟩ := rnum_inv (show (rnum 0 8 (decS3 b).2).2.2 = false from p1)
  obtain ⟨b1, n3, s3, b2, b3, b4, b5, b6⟩ := rnum_inv (show (rnum 0 64 (decS2 b).2).2.2 = false from a1)
  obtain ⟨c1, n2, s2, c2, c3, c4, c5, c6⟩ := rnum_inv (show (rnum 1 1099511627776 (decS1 b).2).2.2 = false from b1)
  obtain ⟨d1, n1, s1, d2, d3, d4, d5, d6⟩ := rnum_inv (show (rnum 1 4 (b, false)).2.2 = false from c1)
  have e1 : decS1 b = ((n1 : Int), (s1, false)) := d6
  have e2 : decS2 b = ((n2 : Int), (s2, false)) := c6
  have e3 : decS3 b = ((n3 : Int), (s3, false)) := b6
  have e4 : decS4 b = ((n4 : Int), (s4, false)) := a6
  have e5 : decL b = (ls, (r4, false)) := p5
  have e6 : decS5 b = (t, (r5, false)) := q6
  rw [e6] at h2
  dsimp only at h2 d2
  rw [e1] at c2; rw [e2] at b2; rw [e3] at a2; rw [e4] at p4 p2; rw [e5] at q2
  dsimp only at c2 b2 a2 p4 q2 p2
  rw [frB_eq]
  unfold decF
  rw [e1, e2, e3, e5, e6]
  dsimp only
  subst h2
  rw [d2, c2, b2, a2, p4, q2]
  have hn : ls.length = n4 := by rw [p2]; rfl
  rw [hn]
  simp only [Int.toNat_natCast, List.append_assoc, List.append_nil]
theorem frB_inj {a b : Fr} (ha : FrOk a) (hb : FrOk b) : frB a = frB b ↔ a = b := ⟨fun h => by rw [← (dec_ok ha).2, h, (dec_ok hb).2], fun h => by rw [h]⟩
/-- What stands behind a frame's bytes makes them none. -/
theorem dec_more {f : Fr} (h : FrOk f) (r : List UInt8) : decOk (frB f ++ r) ↔ r = [] := by
  have h1 := dec_fwd h r
  constructor
  · rintro ⟨_, h2, _⟩; rw [h1.2] at h2; exact h2
  · rintro rfl; rw [List.append_nil]; exact (dec_ok h).1
/-- A beginning of a frame's bytes is none. -/
theorem dec_cut {f : Fr} (h : FrOk f) {p r : List UInt8} (he : frB f = p ++ r) (hr : r ≠ []) : ¬ decOk p := by
  intro hp
  have h1 := dec_inv hp
  have h2 := (dec_more hp.2.2 r)
  rw [h1, ← he] at h2
  exact hr (h2.1 (dec_ok h).1)
theorem zeroF_no : ¬ FrOk zeroF := by rintro ⟨h, _⟩; simp [zeroF] at h
end Go.Proofs.Ytnjkklkjlloedaa
