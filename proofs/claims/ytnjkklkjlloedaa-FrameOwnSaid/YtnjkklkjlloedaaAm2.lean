/- The abstract machine: rules for control, and for operations that turn no memory. -/
import Derived.Test.YtnjkklkjlloedaaAm1
namespace Go.Proofs.Ytnjkklkjlloedaa
open Go.RowKit
set_option linter.unusedVariables false
set_option linter.unusedSimpArgs false

/-! ### Types -/
class TySl (P : Program) (t : TypeId) (e : outParam TypeId) (sz bytes : outParam Nat) : Prop where
  und : P.underlying t = some (.slice e)
  info : ∃ i z, P.info? e = some i ∧ i.zero = some z ∧ i.size = sz ∧ i.bytes = bytes ∧ z.cells.size = sz
  pos : 0 < sz
class TyInt (P : Program) (t : TypeId) (k : outParam IntKind) : Prop where
  und : P.underlying t = some (.int k)
class TyStr (P : Program) (t : TypeId) : Prop where
  und : P.underlying t = some .string
class TyBool (P : Program) (t : TypeId) : Prop where
  und : P.underlying t = some .bool
class TyPtr (P : Program) (t : TypeId) : Prop where
  und : ∃ e, P.underlying t = some (.pointer e)
class TyMap (P : Program) (t : TypeId) (k e : outParam TypeId) : Prop where
  und : P.underlying t = some (.map k e)
class TyIface (P : Program) (t : TypeId) : Prop where
  und : ∃ ms, P.underlying t = some (.interface ms)
/-- A type that is no interface. -/
class TyConc (P : Program) (t : TypeId) : Prop where
  und : ∃ d, P.underlying t = some d ∧ ∀ ms, d ≠ .interface ms
def aggD : TypeDesc → Bool
  | .struct _ => true
  | .array _ _ => true
  | _ => false
/-- A type of one cell, or a struct or array of so many. -/
class TyVar (P : Program) (t : TypeId) (agg : outParam Bool) (sz : outParam Nat) : Prop where
  und : ∃ d, P.underlying t = some d ∧ agg = aggD d
  size : ∃ i, P.info? t = some i ∧ i.size = sz
class TyFld (P : Program) (t : TypeId) (f : Nat) (off : outParam Nat) (ft : outParam TypeId) : Prop where
  und : ∃ fs x, P.underlying t = some (.struct fs) ∧ fs[f]? = some x ∧ x.offset = off ∧ x.type = ft
class TyArr (P : Program) (t : TypeId) (n : outParam Nat) (e : outParam TypeId) : Prop where
  und : P.underlying t = some (.array n e)

theorem TySl.mk' {P : Program} {t e : TypeId} {sz bytes : Nat} {z : Value} (und : P.underlying t = some (.slice e)) (hi : (P.info? e).map (fun i => (i.zero, i.size, i.bytes)) = some (some z, sz, bytes)) (hz : z.cells.size = sz) (pos : 0 < sz) : TySl P t e sz bytes :=
  ⟨und, let ⟨i, a, b, c, d⟩ := info_parts hi; ⟨i, z, a, b, c, d, hz⟩, pos⟩
theorem TyConc.mk' {P : Program} {t : TypeId} {d : TypeDesc} (h : P.underlying t = some d) (h2 : (match d with | .interface _ => false | _ => true) = true) : TyConc P t := ⟨d, h, fun ms e => by subst e; simp at h2⟩
theorem TyVar.mk' {P : Program} {t : TypeId} {d : TypeDesc} {agg : Bool} {sz : Nat} (h : P.underlying t = some d) (h2 : aggD d = agg) (h3 : (P.info? t).map (·.size) = some sz) : TyVar P t agg sz :=
  ⟨⟨d, h, h2.symm⟩, by cases hi : P.info? t with
    | none => rw [hi] at h3; cases h3
    | some i => rw [hi] at h3; exact ⟨i, rfl, by simpa using h3⟩⟩
theorem TyFld.mk' {P : Program} {t : TypeId} {fs : Array Field} {f off : Nat} {ft : TypeId} (h : P.underlying t = some (.struct fs)) (h2 : (fs[f]?).map (fun x => (x.offset, x.type)) = some (off, ft)) : TyFld P t f off ft :=
  ⟨fs, by cases hx : fs[f]? with
    | none => rw [hx] at h2; cases h2
    | some x => rw [hx] at h2; simp at h2; exact ⟨x, h, rfl, h2.1, h2.2⟩⟩

theorem TySl.ei {P : Program} {t e : TypeId} {sz bytes : Nat} [T : TySl P t e sz bytes] : ∃ z, EI P t e z sz bytes := by
  obtain ⟨i, z, h1, h2, h3, h4, h5⟩ := T.info
  exact ⟨z, T.und, ⟨i, h1, h2, h3, h4⟩, h5⟩
theorem TyVar.sizeOf {P : Program} {t : TypeId} {agg : Bool} {sz : Nat} [T : TyVar P t agg sz] (w : World) : (sizeOf t).run P w = .ok sz w := by
  obtain ⟨i, h, rfl⟩ := T.size
  simp [Go.sizeOf, typeInfo, h]
theorem TySl.sizeOf {P : Program} {t e : TypeId} {sz bytes : Nat} [T : TySl P t e sz bytes] (w : World) : (sizeOf e).run P w = .ok sz w := by
  obtain ⟨i, z, h, _, rfl, _⟩ := T.info
  simp [Go.sizeOf, typeInfo, h]
theorem TyVar.isAgg {P : Program} {t : TypeId} {agg : Bool} {sz : Nat} [T : TyVar P t agg sz] (w : World) : (isAgg t).run P w = .ok agg w := by
  obtain ⟨d, h, h2⟩ := T.und
  subst h2
  simp only [Go.isAgg, Sem.run_bind, run_underlying h, Result.andThen_ok]
  cases d <;> rfl

/-! ### Operands -/
def cav : Value → AV
  | .int k n => .int k n
  | .bool b => .bool b
  | .string s => if s.size ≤ 1000000 then .str s.data.toList else .any
  | .pointer none => .nilp
  | .slice none 0 0 => .nils
  | .nilIface => .nili
  | .map none => .nilm
  | _ => .any
def aev (sl : List AV) : Operand → AV
  | .tmp t => sl.getD t .any
  | .const v => cav v
  | .global _ => .any
  | .func f => .fn f [] []
def aput (sl : List AV) (d : Option Tmp) (v : AV) : List AV := match d with | some d => sl.set d v | none => sl

variable {base : Nat} {Fi : Int → Prop} {M M' M'' : MM} {w w' w'' : World}

theorem cav_reps (v : Value) : Reps M w (cav v) v := by
  have H : ∀ (a : AV), a = cav v → Reps M w a v := by
    intro a ha
    unfold cav at ha
    split at ha
    case h_3 s =>
      split at ha <;> subst ha <;> unfold Reps
      · rename_i h; exact ⟨by simp, by simp only [Array.length_toList, maxLen]; have : s.data.size = s.size := rfl; omega⟩
      · trivial
    all_goals (subst ha; unfold Reps; first | rfl | trivial)
  exact H _ rfl
theorem aev_reps {sl : List AV} {a : Act} (h : RepsL M w sl a.tmps.toList) (x : Operand) : Reps M w (aev sl x) (a.eval x) := by
  cases x with
  | tmp t =>
    simp only [aev, Act.eval]
    cases hx : sl[t]? with
    | none => rw [List.getD_eq_getElem?_getD, hx]; unfold Reps; trivial
    | some av =>
      obtain ⟨v, hv, hr⟩ := h.get t av hx
      rw [List.getD_eq_getElem?_getD, hx]
      have : a.tmps.getD t undef = v := by
        rw [Array.getD_eq_getD_getElem?, ← Array.getElem?_toList, hv]; rfl
      rw [this]; exact hr
  | const v => exact cav_reps v
  | global g => unfold aev Reps; trivial
  | func f => unfold aev Reps; exact ⟨#[], #[], rfl, RepsL.nil, RepsL.nil⟩
theorem aput_reps {sl : List AV} {a : Act} (h : RepsL M w sl a.tmps.toList) (d : Option Tmp) {av : AV} {v : Value} (r : Reps M w av v) : RepsL M w (aput sl d av) (a.put d v).tmps.toList := by
  cases d with
  | none => exact h
  | some d =>
    simp only [aput, Act.put, Array.toList_setIfInBounds]
    exact h.set d r

/-! ### Control -/
variable {P : Program} {ops : Array Oper} {r : List Oper} {sl sl' : List AV} {σ σ' : ASt} {Q : Exit → List AV → ASt → Prop}

def AWP (P : Program) (c : Code) (sl : List AV) (σ : ASt) (Q : Exit → List AV → ASt → Prop) : Prop := ∀ base Fi M0 w0 M a w, Stp base Fi M0 w0 M w → Rel base Fi M a w sl σ → c.wp P (Lift Q base Fi M0 w0) a w
def AOPS (P : Program) (ops : Array Oper) (l : List Oper) (sl : List AV) (σ : ASt) (Q : Exit → List AV → ASt → Prop) : Prop := ∀ base Fi M0 w0 M a w, Stp base Fi M0 w0 M w → Rel base Fi M a w sl σ → wpList P ops (Lift Q base Fi M0 w0) l a w

def AThen (P : Program) (c : Code) (Q : Exit → List AV → ASt → Prop) : Exit → List AV → ASt → Prop
  | .normal, sl, σ => AWP P c sl σ Q
  | e, sl, σ => Q e sl σ
def ABlock (id : Nat) (Q : Exit → List AV → ASt → Prop) : Exit → List AV → ASt → Prop
  | .exit i, sl, σ => if i = id then Q .normal sl σ else Q (.exit i) sl σ
  | e, sl, σ => Q e sl σ
def ARound (I : List AV → ASt → Prop) (μ : List AV → ASt → Nat) (n : Nat) (Q : Exit → List AV → ASt → Prop) : Exit → List AV → ASt → Prop
  | .normal, sl, σ => I sl σ ∧ μ sl σ < n
  | e, sl, σ => Q e sl σ

theorem AWP_skip (h : Q .normal sl σ) : AWP P .skip sl σ Q := fun _ _ _ _ M a w hs hr => wp_skip ⟨sl, σ, M, h, hr, hs⟩
theorem AWP_ret (h : Q .ret sl σ) : AWP P .ret sl σ Q := fun _ _ _ _ M a w hs hr => wp_ret ⟨sl, σ, M, h, hr, hs⟩
theorem AWP_exit {i : Nat} (h : Q (.exit i) sl σ) : AWP P (.exit i) sl σ Q := fun _ _ _ _ M a w hs hr => wp_exit ⟨sl, σ, M, h, hr, hs⟩
theorem AWP_label {i : Nat} (h : Q .normal sl σ) : AWP P (.label i) sl σ Q := fun _ _ _ _ M a w hs hr => wp_label ⟨sl, σ, M, h, hr, hs⟩
theorem AWP_goto {i : Nat} (h : Q (.goto i) sl σ) : AWP P (.goto i) sl σ Q := fun _ _ _ _ M a w hs hr => wp_goto ⟨sl, σ, M, h, hr, hs⟩
theorem AWP_seq {x y : Code} (h : AWP P x sl σ (AThen P y Q)) : AWP P (.seq x y) sl σ Q := by
  intro base Fi M0 w0 M a w hs hr
  refine wp_seq (wp_mono (h base Fi M0 w0 M a w hs hr) ?_)
  rintro e a' w' ⟨sl', σ', M', hq, hr', hs'⟩
  cases e with
  | normal => exact hq base Fi M0 w0 M' a' w' hs' hr'
  | _ => exact ⟨sl', σ', M', hq, hr', hs'⟩
theorem AThen_normal {c : Code} (h : AWP P c sl σ Q) : AThen P c Q .normal sl σ := h
theorem AThen_exit {c : Code} {i : Nat} (h : Q (.exit i) sl σ) : AThen P c Q (.exit i) sl σ := h
theorem AThen_goto {c : Code} {i : Nat} (h : Q (.goto i) sl σ) : AThen P c Q (.goto i) sl σ := h
theorem AThen_ret {c : Code} (h : Q .ret sl σ) : AThen P c Q .ret sl σ := h
theorem AWP_block {i : Nat} {c : Code} (h : AWP P c sl σ (ABlock i Q)) : AWP P (.block i c) sl σ Q := by
  intro base Fi M0 w0 M a w hs hr
  refine wp_block (wp_mono (h base Fi M0 w0 M a w hs hr) ?_)
  rintro e a' w' ⟨sl', σ', M', hq, hr', hs'⟩
  cases e with
  | exit j =>
    simp only [ABlock] at hq
    simp only [Exit.inBlock]
    split
    · rename_i hj; rw [if_pos hj] at hq; exact ⟨sl', σ', M', hq, hr', hs'⟩
    · rename_i hj; rw [if_neg hj] at hq; exact ⟨sl', σ', M', hq, hr', hs'⟩
  | _ => exact ⟨sl', σ', M', hq, hr', hs'⟩
theorem ABlock_normal {i : Nat} (h : Q .normal sl σ) : ABlock i Q .normal sl σ := h
theorem ABlock_ret {i : Nat} (h : Q .ret sl σ) : ABlock i Q .ret sl σ := h
theorem ABlock_goto {i j : Nat} (h : Q (.goto j) sl σ) : ABlock i Q (.goto j) sl σ := h
theorem ABlock_exit {i : Nat} (h : Q .normal sl σ) : ABlock i Q (.exit i) sl σ := by simp only [ABlock, if_true]; exact h
theorem ABlock_other {i j : Nat} (hij : (j == i) = false) (h : Q (.exit j) sl σ) : ABlock i Q (.exit j) sl σ := by
  have : j ≠ i := by simpa using hij
  simp only [ABlock, this, if_false]; exact h
theorem least_nat {S : Nat → Prop} : ∀ n, S n → ∃ m, S m ∧ ∀ k, S k → m ≤ k := by
  intro n
  induction n using Nat.strongRecOn with
  | _ n ih =>
    intro hn
    by_cases h : ∃ k, k < n ∧ S k
    · obtain ⟨k, hk, hs⟩ := h; exact ih k hk hs
    · exact ⟨n, hn, fun k hk => Nat.le_of_not_lt fun hlt => h ⟨k, hlt, hk⟩⟩
theorem AWP_loop {c : Code} (I : List AV → ASt → Prop) (μ : List AV → ASt → Nat) (h0 : I sl σ) (round : ∀ sl σ, I sl σ → AWP P c sl σ (ARound I μ (μ sl σ) Q)) : AWP P (.loop c) sl σ Q := by
  intro base Fi M0 w0 M a w hs hr
  let S : Act → World → Nat → Prop := fun a w n => ∃ sl σ M, I sl σ ∧ μ sl σ = n ∧ Stp base Fi M0 w0 M w ∧ Rel base Fi M a w sl σ
  have hmin : ∀ a w, ∃ m, (∃ n, S a w n) → S a w m ∧ ∀ k, S a w k → m ≤ k := by
    intro a w
    by_cases h : ∃ n, S a w n
    · obtain ⟨n, hn⟩ := h
      obtain ⟨m, h1, h2⟩ := least_nat n hn
      exact ⟨m, fun _ => ⟨h1, h2⟩⟩
    · exact ⟨0, fun h' => absurd h' h⟩
  refine wp_loop (fun a w => ∃ n, S a w n) (fun a w => Classical.choose (hmin a w)) ⟨_, sl, σ, M, h0, rfl, hs, hr⟩ ?_
  intro a w hI
  obtain ⟨⟨sl, σ, M, h1, h2, h3, h4⟩, hle⟩ := Classical.choose_spec (hmin a w) hI
  refine wp_mono (round sl σ h1 base Fi M0 w0 M a w h3 h4) ?_
  rintro e a' w' ⟨sl', σ', M', hq, hr', hs'⟩
  cases e with
  | normal =>
    obtain ⟨hI', hlt⟩ := hq
    have hS : S a' w' (μ sl' σ') := ⟨sl', σ', M', hI', rfl, hs', hr'⟩
    have hm := Classical.choose_spec (hmin a' w') ⟨_, hS⟩
    exact ⟨⟨_, hS⟩, Nat.lt_of_le_of_lt (hm.2 _ hS) (h2 ▸ hlt)⟩
  | _ => exact ⟨sl', σ', M', hq, hr', hs'⟩
theorem ARound_normal {I : List AV → ASt → Prop} {μ : List AV → ASt → Nat} {n : Nat} (h : I sl σ) (h2 : μ sl σ < n) : ARound I μ n Q .normal sl σ := ⟨h, h2⟩
theorem ARound_ret {I : List AV → ASt → Prop} {μ : List AV → ASt → Nat} {n : Nat} (h : Q .ret sl σ) : ARound I μ n Q .ret sl σ := h
theorem ARound_exit {I : List AV → ASt → Prop} {μ : List AV → ASt → Nat} {n i : Nat} (h : Q (.exit i) sl σ) : ARound I μ n Q (.exit i) sl σ := h
theorem ARound_goto {I : List AV → ASt → Prop} {μ : List AV → ASt → Nat} {n i : Nat} (h : Q (.goto i) sl σ) : ARound I μ n Q (.goto i) sl σ := h
end Go.Proofs.Ytnjkklkjlloedaa
