/- The abstract machine: calls that see a part of the store, under other numbers. -/
import Derived.Test.YtnjkklkjlloedaaAmD
namespace Go.Proofs.Ytnjkklkjlloedaa
open Go.RowKit
set_option linter.unusedVariables false
set_option linter.unusedSimpArgs false
variable {base : Nat} {Fi : Int → Prop} {M M1 M2 : MM} {w w' : World}
variable {P : Program} {σ σ' : ASt}

def AOwn.ren (ρ : Int → Int) : AOwn → AOwn
  | .tok id top sz => .tok (ρ id) top sz
  | o => o
def AOwn.ids (p : Int → Bool) : AOwn → Bool
  | .tok id _ _ => p id
  | _ => true
mutual
/-- The same under other numbers. -/
def AV.ren (ρ : Int → Int) : AV → AV
  | .sl own cells n => .sl (own.ren ρ) (AV.renL ρ cells) n
  | .epr cells n => .epr (AV.renL ρ cells) n
  | .fn f a b => .fn f (AV.renL ρ a) (AV.renL ρ b)
  | .iface t a => .iface t (a.ren ρ)
  | .agg cs => .agg (AV.renL ρ cs)
  | .tup cs => .tup (AV.renL ρ cs)
  | .ptr i o => .ptr (ρ i) o
  | .row i o n => .row (ρ i) o n
  | .buf i o n c => .buf (ρ i) o n c
  | .map i => .map (ρ i)
  | .any => .any
  | .und => .und
  | .int k n => .int k n
  | .bool b => .bool b
  | .str s => .str s
  | .nilp => .nilp
  | .nils => .nils
  | .nilm => .nilm
  | .nili => .nili
def AV.renL (ρ : Int → Int) : List AV → List AV
  | [] => []
  | a :: r => a.ren ρ :: AV.renL ρ r
end
mutual
/-- All numbers in it are of this kind. -/
def AV.ids (p : Int → Bool) : AV → Bool
  | .sl own cells n => own.ids p && AV.idsL p cells
  | .epr cells n => AV.idsL p cells
  | .fn f a b => AV.idsL p a && AV.idsL p b
  | .iface t a => a.ids p
  | .agg cs => AV.idsL p cs
  | .tup cs => AV.idsL p cs
  | .ptr i o => p i
  | .row i o n => p i
  | .buf i o n c => p i
  | .map i => p i
  | _ => true
def AV.idsL (p : Int → Bool) : List AV → Bool
  | [] => true
  | a :: r => a.ids p && AV.idsL p r
end
theorem AV.renL_length (ρ : Int → Int) : ∀ l : List AV, (AV.renL ρ l).length = l.length
  | [] => rfl
  | a :: r => by simp [AV.renL, AV.renL_length ρ r]
mutual
theorem AV.ren_shut (ρ : Int → Int) : ∀ a : AV, a.shut = true → a.ren ρ = a
  | .sl own cells n, h => by
    cases own with
    | tok => simp [AV.shut] at h
    | none => unfold AV.ren; rw [AV.renL_shut ρ cells (by simpa [AV.shut] using h)]; rfl
    | full => unfold AV.ren; rw [AV.renL_shut ρ cells (by simpa [AV.shut] using h)]; rfl
  | .epr cells n, h => by unfold AV.ren; rw [AV.renL_shut ρ cells (by simpa [AV.shut] using h)]
  | .fn f a b, h => by
    simp only [AV.shut, Bool.and_eq_true] at h
    unfold AV.ren; rw [AV.renL_shut ρ a h.1, AV.renL_shut ρ b h.2]
  | .iface t a, h => by unfold AV.ren; rw [AV.ren_shut ρ a (by simpa [AV.shut] using h)]
  | .agg cs, h => by unfold AV.ren; rw [AV.renL_shut ρ cs (by simpa [AV.shut] using h)]
  | .tup cs, h => by unfold AV.ren; rw [AV.renL_shut ρ cs (by simpa [AV.shut] using h)]
  | .ptr _ _, h => by simp [AV.shut] at h
  | .row _ _ _, h => by simp [AV.shut] at h
  | .buf _ _ _ _, h => by simp [AV.shut] at h
  | .map _, h => by simp [AV.shut] at h
  | .any, _ => by unfold AV.ren; rfl
  | .und, _ => by unfold AV.ren; rfl
  | .int _ _, _ => by unfold AV.ren; rfl
  | .bool _, _ => by unfold AV.ren; rfl
  | .str _, _ => by unfold AV.ren; rfl
  | .nilp, _ => by unfold AV.ren; rfl
  | .nils, _ => by unfold AV.ren; rfl
  | .nilm, _ => by unfold AV.ren; rfl
  | .nili, _ => by unfold AV.ren; rfl
theorem AV.renL_shut (ρ : Int → Int) : ∀ l : List AV, AV.shutL l = true → AV.renL ρ l = l
  | [], _ => rfl
  | a :: r, h => by
    simp only [AV.shutL, Bool.and_eq_true] at h
    unfold AV.renL; rw [AV.ren_shut ρ a h.1, AV.renL_shut ρ r h.2]
end
mutual
theorem AV.ids_shut (p : Int → Bool) : ∀ a : AV, a.shut = true → a.ids p = true
  | .sl own cells n, h => by
    cases own with
    | tok => simp [AV.shut] at h
    | none => unfold AV.ids; rw [AV.idsL_shut p cells (by simpa [AV.shut] using h)]; rfl
    | full => unfold AV.ids; rw [AV.idsL_shut p cells (by simpa [AV.shut] using h)]; rfl
  | .epr cells n, h => by unfold AV.ids; rw [AV.idsL_shut p cells (by simpa [AV.shut] using h)]
  | .fn f a b, h => by
    simp only [AV.shut, Bool.and_eq_true] at h
    unfold AV.ids; rw [AV.idsL_shut p a h.1, AV.idsL_shut p b h.2]; rfl
  | .iface t a, h => by unfold AV.ids; rw [AV.ids_shut p a (by simpa [AV.shut] using h)]
  | .agg cs, h => by unfold AV.ids; rw [AV.idsL_shut p cs (by simpa [AV.shut] using h)]
  | .tup cs, h => by unfold AV.ids; rw [AV.idsL_shut p cs (by simpa [AV.shut] using h)]
  | .ptr _ _, h => by simp [AV.shut] at h
  | .row _ _ _, h => by simp [AV.shut] at h
  | .buf _ _ _ _, h => by simp [AV.shut] at h
  | .map _, h => by simp [AV.shut] at h
  | .any, _ => by unfold AV.ids; rfl
  | .und, _ => by unfold AV.ids; rfl
  | .int _ _, _ => by unfold AV.ids; rfl
  | .bool _, _ => by unfold AV.ids; rfl
  | .str _, _ => by unfold AV.ids; rfl
  | .nilp, _ => by unfold AV.ids; rfl
  | .nils, _ => by unfold AV.ids; rfl
  | .nilm, _ => by unfold AV.ids; rfl
  | .nili, _ => by unfold AV.ids; rfl
theorem AV.idsL_shut (p : Int → Bool) : ∀ l : List AV, AV.shutL l = true → AV.idsL p l = true
  | [], _ => rfl
  | a :: r, h => by
    simp only [AV.shutL, Bool.and_eq_true] at h
    unfold AV.idsL; rw [AV.ids_shut p a h.1, AV.idsL_shut p r h.2]; rfl
end
structure Conv (M1 M2 : MM) (ρ : Int → Int) (p : Int → Bool) : Prop where
  ob : ∀ i b, p i = true → M1.ob i = some b → M2.ob (ρ i) = some b
  tk : ∀ i T, p i = true → M1.tk i = some T → M2.tk (ρ i) = some T
  st : ∀ b j, stab M1 b j → stab M2 b j
mutual
/-- Under other numbers. -/
theorem Reps.conv {ρ : Int → Int} {p : Int → Bool} (h : Conv M1 M2 ρ p) : ∀ (a : AV) (v : Value), a.ids p = true → Reps M1 w a v → Reps M2 w (a.ren ρ) v
  | .sl own cells n, v, hs, hr => by
    simp only [AV.ids, Bool.and_eq_true] at hs
    simp only [AV.ren] at hr ⊢
    unfold Reps at hr ⊢
    obtain ⟨A, c, vs, h1, h2, h3, h4, h5, h6, h7, h8⟩ := hr
    refine ⟨A, c, vs, h1, h2, h3, h4, h5.imp (fun h => h) fun ⟨b, o, hA, hm⟩ => ⟨b, o, hA, fun j u hu => ⟨(hm j u hu).1, h.st _ _ (hm j u hu).2⟩⟩, RepsL.conv h cells vs hs.2 h6, fun h0 => ?_, ?_⟩
    · have := congrArg List.length (h7 h0)
      simp only [AV.renL_length, List.length_nil] at this
      exact List.eq_nil_of_length_eq_zero (by simpa [AV.renL_length] using this)
    · cases own with
      | none => trivial
      | full => exact h8
      | tok id top sz =>
        simp only [AOwn.ids] at hs
        simp only [AOwn.ren, OwnOk] at h8 ⊢
        obtain ⟨T, k1, k2, k3, k4, k5⟩ := h8
        exact ⟨T, h.tk id T hs.1 k1, k2, k3, by simpa [AV.renL_length] using k4, fun e => by have := k5 e; revert this; cases T.blk <;> simp [AV.renL_length]⟩
  | .epr cells n, v, hs, hr => by
    simp only [AV.ids] at hs
    simp only [AV.ren] at hr ⊢
    unfold Reps at hr ⊢
    obtain ⟨b, o, vs, h1, h2, h3⟩ := hr
    exact ⟨b, o, vs, h1, fun j u hu => ⟨(h2 j u hu).1, h.st _ _ (h2 j u hu).2⟩, RepsL.conv h cells vs hs h3⟩
  | .fn f a b, v, hs, hr => by
    simp only [AV.ids, Bool.and_eq_true] at hs
    simp only [AV.ren] at hr ⊢
    unfold Reps at hr ⊢
    obtain ⟨fs, cs, h1, h2, h3⟩ := hr
    exact ⟨fs, cs, h1, RepsL.conv h a _ hs.1 h2, RepsL.conv h b _ hs.2 h3⟩
  | .iface t a, v, hs, hr => by
    simp only [AV.ids] at hs
    simp only [AV.ren] at hr ⊢
    unfold Reps at hr ⊢
    obtain ⟨u, h1, h2⟩ := hr
    exact ⟨u, h1, Reps.conv h a u hs h2⟩
  | .agg cs, v, hs, hr => by
    simp only [AV.ids] at hs
    simp only [AV.ren] at hr ⊢
    unfold Reps at hr ⊢
    obtain ⟨vs, h1, h2⟩ := hr
    exact ⟨vs, h1, RepsL.conv h cs _ hs h2⟩
  | .tup cs, v, hs, hr => by
    simp only [AV.ids] at hs
    simp only [AV.ren] at hr ⊢
    unfold Reps at hr ⊢
    obtain ⟨vs, h1, h2⟩ := hr
    exact ⟨vs, h1, RepsL.conv h cs _ hs h2⟩
  | .ptr i o, v, hs, hr => by
    simp only [AV.ids] at hs
    simp only [AV.ren] at hr ⊢
    unfold Reps at hr ⊢
    obtain ⟨b, h1, h2⟩ := hr
    exact ⟨b, h.ob i b hs h1, h2⟩
  | .row i o n, v, hs, hr => by
    simp only [AV.ids] at hs
    simp only [AV.ren] at hr ⊢
    unfold Reps at hr ⊢
    obtain ⟨b, h1, h2⟩ := hr
    exact ⟨b, h.ob i b hs h1, h2⟩
  | .buf i o n c, v, hs, hr => by
    simp only [AV.ids] at hs
    simp only [AV.ren] at hr ⊢
    unfold Reps at hr ⊢
    obtain ⟨b, h1, h2⟩ := hr
    exact ⟨b, h.ob i b hs h1, h2⟩
  | .map i, v, hs, hr => by
    simp only [AV.ids] at hs
    simp only [AV.ren] at hr ⊢
    unfold Reps at hr ⊢
    obtain ⟨b, h1, h2⟩ := hr
    exact ⟨b, h.ob i b hs h1, h2⟩
  | .any, v, _, hr => by simp only [AV.ren] at hr ⊢; unfold Reps at hr ⊢; exact hr
  | .und, v, _, hr => by simp only [AV.ren] at hr ⊢; unfold Reps at hr ⊢; exact hr
  | .int _ _, v, _, hr => by simp only [AV.ren] at hr ⊢; unfold Reps at hr ⊢; exact hr
  | .bool _, v, _, hr => by simp only [AV.ren] at hr ⊢; unfold Reps at hr ⊢; exact hr
  | .str _, v, _, hr => by simp only [AV.ren] at hr ⊢; unfold Reps at hr ⊢; exact hr
  | .nilp, v, _, hr => by simp only [AV.ren] at hr ⊢; unfold Reps at hr ⊢; exact hr
  | .nils, v, _, hr => by simp only [AV.ren] at hr ⊢; unfold Reps at hr ⊢; exact hr
  | .nilm, v, _, hr => by simp only [AV.ren] at hr ⊢; unfold Reps at hr ⊢; exact hr
  | .nili, v, _, hr => by simp only [AV.ren] at hr ⊢; unfold Reps at hr ⊢; exact hr
theorem RepsL.conv {ρ : Int → Int} {p : Int → Bool} (h : Conv M1 M2 ρ p) : ∀ (l : List AV) (vs : List Value), AV.idsL p l = true → RepsL M1 w l vs → RepsL M2 w (AV.renL ρ l) vs
  | [], vs, _, hr => by simp only [AV.renL] at hr ⊢; unfold RepsL at hr ⊢; exact hr
  | a :: r, vs, hs, hr => by
    simp only [AV.idsL, Bool.and_eq_true] at hs
    simp only [AV.renL] at hr ⊢
    unfold RepsL at hr ⊢
    obtain ⟨v, vr, h1, h2, h3⟩ := hr
    exact ⟨v, vr, h1, Reps.conv h a v hs.1 h2, RepsL.conv h r vr hs.2 h3⟩
end
structure Vnoc (M1 M2 : MM) (ρ : Int → Int) (p : Int → Bool) : Prop where
  ob : ∀ i b, p i = true → M1.ob (ρ i) = some b → M2.ob i = some b
  tk : ∀ i T, p i = true → M1.tk (ρ i) = some T → M2.tk i = some T
  st : ∀ b j, stab M1 b j → stab M2 b j
mutual
/-- And back. -/
theorem Reps.vnoc {ρ : Int → Int} {p : Int → Bool} (h : Vnoc M1 M2 ρ p) : ∀ (a : AV) (v : Value), a.ids p = true → Reps M1 w (a.ren ρ) v → Reps M2 w a v
  | .sl own cells n, v, hs, hr => by
    simp only [AV.ids, Bool.and_eq_true] at hs
    simp only [AV.ren] at hr ⊢
    unfold Reps at hr ⊢
    obtain ⟨A, c, vs, h1, h2, h3, h4, h5, h6, h7, h8⟩ := hr
    refine ⟨A, c, vs, h1, h2, h3, h4, h5.imp (fun h => h) fun ⟨b, o, hA, hm⟩ => ⟨b, o, hA, fun j u hu => ⟨(hm j u hu).1, h.st _ _ (hm j u hu).2⟩⟩, RepsL.vnoc h cells vs hs.2 h6, fun h0 => ?_, ?_⟩
    · have := congrArg List.length (h7 h0)
      simp only [AV.renL_length, List.length_nil] at this
      exact List.eq_nil_of_length_eq_zero (by simpa [AV.renL_length] using this)
    · cases own with
      | none => trivial
      | full => exact h8
      | tok id top sz =>
        simp only [AOwn.ids] at hs
        simp only [AOwn.ren, OwnOk] at h8 ⊢
        obtain ⟨T, k1, k2, k3, k4, k5⟩ := h8
        exact ⟨T, h.tk id T hs.1 k1, k2, k3, by simpa [AV.renL_length] using k4, fun e => by have := k5 e; revert this; cases T.blk <;> simp [AV.renL_length]⟩
  | .epr cells n, v, hs, hr => by
    simp only [AV.ids] at hs
    simp only [AV.ren] at hr ⊢
    unfold Reps at hr ⊢
    obtain ⟨b, o, vs, h1, h2, h3⟩ := hr
    exact ⟨b, o, vs, h1, fun j u hu => ⟨(h2 j u hu).1, h.st _ _ (h2 j u hu).2⟩, RepsL.vnoc h cells vs hs h3⟩
  | .fn f a b, v, hs, hr => by
    simp only [AV.ids, Bool.and_eq_true] at hs
    simp only [AV.ren] at hr ⊢
    unfold Reps at hr ⊢
    obtain ⟨fs, cs, h1, h2, h3⟩ := hr
    exact ⟨fs, cs, h1, RepsL.vnoc h a _ hs.1 h2, RepsL.vnoc h b _ hs.2 h3⟩
  | .iface t a, v, hs, hr => by
    simp only [AV.ids] at hs
    simp only [AV.ren] at hr ⊢
    unfold Reps at hr ⊢
    obtain ⟨u, h1, h2⟩ := hr
    exact ⟨u, h1, Reps.vnoc h a u hs h2⟩
  | .agg cs, v, hs, hr => by
    simp only [AV.ids] at hs
    simp only [AV.ren] at hr ⊢
    unfold Reps at hr ⊢
    obtain ⟨vs, h1, h2⟩ := hr
    exact ⟨vs, h1, RepsL.vnoc h cs _ hs h2⟩
  | .tup cs, v, hs, hr => by
    simp only [AV.ids] at hs
    simp only [AV.ren] at hr ⊢
    unfold Reps at hr ⊢
    obtain ⟨vs, h1, h2⟩ := hr
    exact ⟨vs, h1, RepsL.vnoc h cs _ hs h2⟩
  | .ptr i o, v, hs, hr => by
    simp only [AV.ids] at hs
    simp only [AV.ren] at hr ⊢
    unfold Reps at hr ⊢
    obtain ⟨b, h1, h2⟩ := hr
    exact ⟨b, h.ob i b hs h1, h2⟩
  | .row i o n, v, hs, hr => by
    simp only [AV.ids] at hs
    simp only [AV.ren] at hr ⊢
    unfold Reps at hr ⊢
    obtain ⟨b, h1, h2⟩ := hr
    exact ⟨b, h.ob i b hs h1, h2⟩
  | .buf i o n c, v, hs, hr => by
    simp only [AV.ids] at hs
    simp only [AV.ren] at hr ⊢
    unfold Reps at hr ⊢
    obtain ⟨b, h1, h2⟩ := hr
    exact ⟨b, h.ob i b hs h1, h2⟩
  | .map i, v, hs, hr => by
    simp only [AV.ids] at hs
    simp only [AV.ren] at hr ⊢
    unfold Reps at hr ⊢
    obtain ⟨b, h1, h2⟩ := hr
    exact ⟨b, h.ob i b hs h1, h2⟩
  | .any, v, _, hr => by simp only [AV.ren] at hr ⊢; unfold Reps at hr ⊢; exact hr
  | .und, v, _, hr => by simp only [AV.ren] at hr ⊢; unfold Reps at hr ⊢; exact hr
  | .int _ _, v, _, hr => by simp only [AV.ren] at hr ⊢; unfold Reps at hr ⊢; exact hr
  | .bool _, v, _, hr => by simp only [AV.ren] at hr ⊢; unfold Reps at hr ⊢; exact hr
  | .str _, v, _, hr => by simp only [AV.ren] at hr ⊢; unfold Reps at hr ⊢; exact hr
  | .nilp, v, _, hr => by simp only [AV.ren] at hr ⊢; unfold Reps at hr ⊢; exact hr
  | .nils, v, _, hr => by simp only [AV.ren] at hr ⊢; unfold Reps at hr ⊢; exact hr
  | .nilm, v, _, hr => by simp only [AV.ren] at hr ⊢; unfold Reps at hr ⊢; exact hr
  | .nili, v, _, hr => by simp only [AV.ren] at hr ⊢; unfold Reps at hr ⊢; exact hr
theorem RepsL.vnoc {ρ : Int → Int} {p : Int → Bool} (h : Vnoc M1 M2 ρ p) : ∀ (l : List AV) (vs : List Value), AV.idsL p l = true → RepsL M1 w (AV.renL ρ l) vs → RepsL M2 w l vs
  | [], vs, _, hr => by simp only [AV.renL] at hr ⊢; unfold RepsL at hr ⊢; exact hr
  | a :: r, vs, hs, hr => by
    simp only [AV.idsL, Bool.and_eq_true] at hs
    simp only [AV.renL] at hr ⊢
    unfold RepsL at hr ⊢
    obtain ⟨v, vr, h1, h2, h3⟩ := hr
    exact ⟨v, vr, h1, Reps.vnoc h a v hs.1 h2, RepsL.vnoc h r vr hs.2 h3⟩
end
end Go.Proofs.Ytnjkklkjlloedaa
