/- Regions that draw their order, walked in every order: what is known of the world grows from effect to effect. -/
import Derived.Test.YtnjkklkjlloedaaW
namespace Go.Proofs.Ytnjkklkjlloedaa
open Go.RowKit
set_option linter.unusedVariables false
theorem wpAnyH_mono {P : Program} {md : Region.Mode} {ops : Array Oper} {Q : Exit → Act → World → Prop} {S S' : World → Prop} (hS : ∀ w, S' w → S w) : ∀ {fuel : Nat} {listed : Array Bool} {a : Act} {w : World}, wpAnyH P md ops Q S' fuel listed a w → wpAnyH P md ops Q S fuel listed a w
  | 0, _, _, _, h => h
  | fuel + 1, _, _, _, h => ⟨h.1, fun i hi => wpOp_mono (fun _ _ h' => ⟨hS _ h'.1, wpAnyH_mono hS h'.2⟩) (h.2 i hi)⟩
/-- A world becomes a letter, what is known of it stays. -/
theorem world_at {K : Act → World → Prop} {a : Act} (F : World → Prop) {W : World} (h : F W) (f : ∀ wx, Hid (F wx) → K a wx) : K a W := f W (Lib.hid h)
end Go.Proofs.Ytnjkklkjlloedaa
