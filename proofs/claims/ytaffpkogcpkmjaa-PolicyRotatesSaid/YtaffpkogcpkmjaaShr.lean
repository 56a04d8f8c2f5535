/- The abstract machine: slots forgotten, so that several ways end at one goal, which is proved once. -/
import Derived.Test.YtaffpkogcpkmjaaBuf2
namespace Go.Proofs.Ytaffpkogcpkmjaa
open Go.RowKit
set_option linter.unusedVariables false
set_option linter.unusedSimpArgs false
variable {base : Nat} {Fi : Int → Prop} {M : MM} {w : World}
variable {P : Program} {ops : Array Oper} {sl sl' : List AV} {σ : ASt} {Q : Exit → List AV → ASt → Prop}
/-- From this slot on so many are forgotten. -/
def forg : Nat → Nat → List AV → Option (List AV)
  | _, _, [] => some []
  | lo + 1, n, a :: l => match forg lo n l with | some r => some (a :: r) | none => none
  | 0, n + 1, _ :: l => match forg 0 n l with | some r => some (.any :: r) | none => none
  | 0, 0, a :: l => match forg 0 0 l with | some r => some (a :: r) | none => none
theorem forg_ok : ∀ (l : List AV) (lo n : Nat) (vs : List Value) (l' : List AV), forg lo n l = some l' → RepsL M w l vs → RepsL M w l' vs
  | [], lo, n, vs, l', e, h => by unfold forg at e; cases e; exact h
  | a :: l, lo + 1, n, vs, l', e, h => by
    unfold forg at e
    split at e
    · rename_i r hr
      cases e
      unfold RepsL at h ⊢
      obtain ⟨v, vr, e1, e2, e3⟩ := h
      exact ⟨v, vr, e1, e2, forg_ok l lo n vr r hr e3⟩
    · cases e
  | a :: l, 0, n + 1, vs, l', e, h => by
    unfold forg at e
    split at e
    · rename_i r hr
      cases e
      unfold RepsL at h ⊢
      obtain ⟨v, vr, e1, e2, e3⟩ := h
      exact ⟨v, vr, e1, by unfold Reps; trivial, forg_ok l 0 n vr r hr e3⟩
    · cases e
  | a :: l, 0, 0, vs, l', e, h => by
    unfold forg at e
    split at e
    · rename_i r hr
      cases e
      unfold RepsL at h ⊢
      obtain ⟨v, vr, e1, e2, e3⟩ := h
      exact ⟨v, vr, e1, e2, forg_ok l 0 0 vr r hr e3⟩
    · cases e
theorem AOPS_forg {l : List Oper} (lo n : Nat) (hs : forg lo n sl = some sl') (h : AOPS P ops l sl' σ Q) : AOPS P ops l sl σ Q := fun base Fi M0 w0 M a w hst hr => h base Fi M0 w0 M a w hst ⟨hr.1, forg_ok _ _ _ _ _ hs hr.2.1, hr.2.2⟩
theorem AWP_forg {c : Code} (lo n : Nat) (hs : forg lo n sl = some sl') (h : AWP P c sl' σ Q) : AWP P c sl σ Q := fun base Fi M0 w0 M a w hst hr => h base Fi M0 w0 M a w hst ⟨hr.1, forg_ok _ _ _ _ _ hs hr.2.1, hr.2.2⟩
/-- Hidden from 'assumption'. -/
structure Veil (G : Prop) : Prop where
  out : G
theorem share {G T : Prop} (h1 : Veil G → T) (h2 : G) : T := h1 ⟨h2⟩
end Go.Proofs.Ytaffpkogcpkmjaa
