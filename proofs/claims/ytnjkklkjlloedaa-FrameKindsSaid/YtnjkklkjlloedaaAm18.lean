/- The abstract machine: jumps ahead, slices with three bounds. -/
import Derived.Test.YtnjkklkjlloedaaAm17
namespace Go.Proofs.Ytnjkklkjlloedaa
open Go.RowKit
set_option linter.unusedVariables false
set_option linter.unusedSimpArgs false
variable {base : Nat} {Fi : Int → Prop} {M : MM} {w w' : World}
variable {P : Program} {ops : Array Oper} {r : List Oper} {sl sl' : List AV} {σ σ' : ASt} {Q : Exit → List AV → ASt → Prop}
variable {dst : Option Tmp} {ty : TypeId} {pos : String} {after : Array Edge} {x y z : Operand}

def ANoGoto (Q : Exit → List AV → ASt → Prop) : Exit → List AV → ASt → Prop
  | .goto _, _, _ => False
  | e, sl, σ => Q e sl σ
def AJump (P : Program) (l : Nat) (rest : Code) (Q : Exit → List AV → ASt → Prop) : Exit → List AV → ASt → Prop
  | .goto l', sl, σ => l' = l ∧ AWP P rest sl σ (ANoGoto Q)
  | e, sl, σ => Q e sl σ
theorem AWP_scope {c rest : Code} (l : Nat) (hf : findLabel c l = some rest) (h : AWP P c sl σ (AJump P l rest Q)) : AWP P (.scope c) sl σ Q := by
  intro base Fi M0 w0 M a w hst hr
  refine wp_scope_fwd l hf (Code.wp_mono ?_ (h base Fi M0 w0 M a w hst hr))
  rintro e a' w' ⟨sl', σ', M', q, hr', hs'⟩
  cases e with
  | goto l' =>
    obtain ⟨rfl, hA⟩ := q
    refine ⟨rfl, Code.wp_mono ?_ (hA base Fi M0 w0 M' a' w' hs' hr')⟩
    rintro e a2 w2 ⟨sl2, σ2, M2, q2, hr2, hs2⟩
    cases e with
    | goto => exact q2.elim
    | _ => exact ⟨sl2, σ2, M2, q2, hr2, hs2⟩
  | _ => exact ⟨sl', σ', M', q, hr', hs'⟩
theorem AJump_normal {l : Nat} {rest : Code} (h : Q .normal sl σ) : AJump P l rest Q .normal sl σ := h
theorem AJump_ret {l : Nat} {rest : Code} (h : Q .ret sl σ) : AJump P l rest Q .ret sl σ := h
theorem AJump_exit {l i : Nat} {rest : Code} (h : Q (.exit i) sl σ) : AJump P l rest Q (.exit i) sl σ := h
theorem AJump_goto {l : Nat} {rest : Code} (h : AWP P rest sl σ (ANoGoto Q)) : AJump P l rest Q (.goto l) sl σ := ⟨rfl, h⟩
theorem ANoGoto_normal (h : Q .normal sl σ) : ANoGoto Q .normal sl σ := h
theorem ANoGoto_ret (h : Q .ret sl σ) : ANoGoto Q .ret sl σ := h
theorem ANoGoto_exit {i : Nat} (h : Q (.exit i) sl σ) : ANoGoto Q (.exit i) sl σ := h
/-- x[:m:m]. -/
theorem AOPS_slice_hm {t e : TypeId} {sz by_ : Nat} {own : AOwn} {cells : List AV} {n m : Nat} {k k' : IntKind} {i j : Int} (hx : aev sl x = .sl own cells n) [T : TySl P t e sz by_] (hy : aev sl y = .int k i) (hz : aev sl z = .int k' j) (hh : i = (m : Int)) (hj : j = (m : Int)) (hlm : m ≤ n) (hs : aput sl dst (.sl .full (cells.take (m * sz)) m) = sl') (h : AOPS P ops r sl' σ Q) : AOPS P ops (⟨dst, .slice t x none (some y) (some z), ty, pos, after, none⟩ :: r) sl σ Q :=
  AOPS_pure (av := .sl .full (cells.take (m * sz)) m) rfl (fun M a w hr => by
    have h1 := ev1 hr hx
    have h2 := ev1 hr hy
    have h3 := ev1 hr hz
    unfold Reps at h1 h2 h3
    obtain ⟨A, c, vs, h1, h4, h5, h6, h7, h8, h9, _⟩ := h1
    subst hh hj
    have h10 := fun w => T.sizeOf w
    have key := Reps.cut (own := own) (b := 0) (sz := sz) (Nat.zero_le m) hlm h4 h5 h6 h7 h8
    simp only [Nat.zero_mul, List.drop_zero, Nat.sub_zero] at key
    have h12 : m ≤ c := by omega
    refine ⟨.slice (if m = 0 then A else A.map (·.add 0)) m m, fun w' L => by simp [execOp, h1, h2, h3, Instr.sliceAt, Instr.slice, run_underlying T.und, Instr.sliceBounds, Instr.sliceBound, asIntOf, h12, h10], ?_⟩
    unfold Reps at key ⊢
    obtain ⟨A', c', vs', k1, k2, k3, k4, k5, k6, k7, _⟩ := key
    simp only [Value.slice.injEq] at k1
    obtain ⟨k1, _, k1'⟩ := k1
    subst k1'
    refine ⟨_, m, vs', rfl, Nat.le_refl m, by omega, fun hn => ?_, ?_, k6, k7, rfl⟩
    · by_cases h0 : m = 0
      · exact h0
      · rw [if_neg h0] at hn
        cases A with
        | none => have := h6 rfl; omega
        | some a => simp at hn
    · rcases k5 with k5 | ⟨b, o, k5, k5'⟩
      · exact .inl k5
      · by_cases h0 : m = 0
        · exact .inl h0
        · refine .inr ⟨b, o, ?_, k5'⟩
          rw [if_neg h0, ← k5, ← k1, if_neg (by omega)]) hs h
end Go.Proofs.Ytnjkklkjlloedaa
