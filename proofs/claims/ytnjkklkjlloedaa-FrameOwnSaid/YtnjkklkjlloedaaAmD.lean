/- The abstract machine: regions that draw their order. (Printed by wip/tools/gen_amd.py.) -/
import Derived.Test.YtnjkklkjlloedaaAm14
import Derived.Test.YtnjkklkjlloedaaReg
namespace Go.Proofs.Ytnjkklkjlloedaa
open Go.RowKit
set_option linter.unusedVariables false
set_option linter.unusedSimpArgs false
variable {base : Nat} {Fi : Int → Prop} {M M' M'' : MM} {w w' w'' : World}
variable {P : Program} {ops : Array Oper} {r : List Oper} {sl sl' : List AV} {σ σ' : ASt} {Q : Exit → List AV → ASt → Prop}
variable {d : Tmp} {dst : Option Tmp} {ty : TypeId} {pos : String} {after : Array Edge} {x y z : Operand} {gd : Option (Nat × Bool)} {op : Op}

/-- No panic, no other end than the walk's own. -/
def NoP (Q : Exit → List AV → ASt → Prop) : Exit → List AV → ASt → Prop
  | .panic _, _, _ => False
  | .outgrown, _, _ => False
  | e, sl, σ => Q e sl σ
theorem NoP.of {e : Exit} (h : NoP Q e sl σ) : Q e sl σ := by cases e <;> first | exact h | exact False.elim h
/-- What is left of a region comes in whatever order. -/
def AANY (P : Program) (n : Nat) (ops : Array Oper) (listed : Array Bool) (sl : List AV) (σ : ASt) (Q : Exit → List AV → ASt → Prop) : Prop :=
  ∀ base Fi M0 w0 M a w, Stp base Fi M0 w0 M w → Rel base Fi M a w sl σ → wpAnyH P .any ops (Lift (NoP Q) base Fi M0 w0) (fun w' => ∃ M', Stp base Fi M w M' w') n listed a w
/-- Behind one operation. -/
def AAnyQ (P : Program) (n : Nat) (ops : Array Oper) (listed : Array Bool) (Q : Exit → List AV → ASt → Prop) : Exit → List AV → ASt → Prop
  | .normal, sl, σ => AANY P n ops listed sl σ Q
  | .panic _, _, _ => False
  | .outgrown, _, _ => False
  | e, sl, σ => Q e sl σ
theorem AAnyQ_normal {n : Nat} {listed : Array Bool} (h : AANY P n ops listed sl σ Q) : AAnyQ P n ops listed Q .normal sl σ := h
theorem AAnyQ.nop {n : Nat} {listed : Array Bool} {e : Exit} (he : e ≠ .normal) (h : AAnyQ P n ops listed Q e sl σ) : NoP Q e sl σ := by
  cases e <;> first | exact absurd rfl he | exact h
theorem AANY_done {n : Nat} {listed : Array Bool} (hr : Region.ready .any ops listed = []) (h : Q .normal sl σ) : AANY P n ops listed sl σ Q :=
  fun base Fi M0 w0 M a w hst hrel => wpAnyH_done hr ⟨sl, σ, M, h, hrel, hst⟩ n

/-! ### What may be taken first -/
def AWant (ops : Array Oper) (o : Oper) (sl : List AV) : Option Bool :=
  match o.guard with
  | none => some true
  | some (j, want) => match ((ops[j]?).bind (·.dst)).map (fun d => sl.getD d .any) with
    | some (.bool b) => some (b == want)
    | some .und => some false
    | _ => none
theorem und_yield {a : Act} (h : RepsL M w sl a.tmps.toList) {j : Nat} (hy : ((ops[j]?).bind (·.dst)).map (fun d => sl.getD d .any) = some .und) : yielded ops a.tmps j = none := by
  cases hd : (ops[j]?).bind (·.dst) with
  | none => simp [yielded, hd]
  | some d =>
    rw [hd] at hy
    simp only [Option.map_some, Option.some.injEq] at hy
    have h1 := aev_reps (w := w) h (.tmp d)
    simp only [aev, hy] at h1
    unfold Reps at h1
    have h3 : a.tmps.getD d undef = undef := h1
    simp only [yielded, hd, Option.bind_some]
    rw [Array.getD_eq_getD_getElem?] at h3
    cases hx : a.tmps[d]? with
    | none => rfl
    | some v => rw [hx] at h3; simp only [Option.getD_some] at h3; subst h3; rfl
theorem AWant_ok {o : Oper} {a : Act} {b : Bool} (h : RepsL M w sl a.tmps.toList) (hw : AWant ops o sl = some b) : Region.wanted o (yielded ops a.tmps) = b := by
  unfold AWant at hw
  cases hg : o.guard with
  | none => rw [hg] at hw; simp at hw; subst hw; simp [Region.wanted, hg]
  | some p =>
    obtain ⟨j, want⟩ := p
    rw [hg] at hw
    simp only at hw
    split at hw
    · rename_i b' hb
      cases hw
      have := ayield_ok (ops := ops) (j := j) (b := b') h (by unfold ayield; rw [hb])
      simp only [Region.wanted, hg, this]
      cases b' <;> cases want <;> rfl
    · rename_i hb
      cases hw
      have := und_yield (ops := ops) h hb
      simp only [Region.wanted, hg, this]; rfl
    · cases hw
/-- Operations that may be taken first, one behind the other. -/
def ATK (P : Program) (ops : Array Oper) : List Oper → List AV → ASt → (Exit → List AV → ASt → Prop) → Prop
  | [], sl, σ, Q => Q .normal sl σ
  | o :: r, sl, σ, Q => ∃ av, ((AWant ops o sl = some true ∧ ARun P o sl av) ∨ (AWant ops o sl = some false ∧ av = .und)) ∧ ATK P ops r (aput sl o.dst av) σ Q
theorem ATK_nil (h : Q .normal sl σ) : ATK P ops [] sl σ Q := h
theorem ATK_pure {o : Oper} {av : AV} (hg : o.guard = none) (ho : ARun P o sl av) (hs : aput sl o.dst av = sl') (h : ATK P ops r sl' σ Q) : ATK P ops (o :: r) sl σ Q :=
  ⟨av, .inl ⟨by simp [AWant, hg], ho⟩, by rw [hs]; exact h⟩
theorem ATK_guard_no {j : Nat} {want b : Bool} (hy : ayield ops sl j = some b) (hb : b = !want) (hs : aput sl dst .und = sl') (h : ATK P ops r sl' σ Q) : ATK P ops (⟨dst, op, ty, pos, after, some (j, want)⟩ :: r) sl σ Q := by
  refine ⟨.und, .inr ⟨?_, rfl⟩, by rw [hs]; exact h⟩
  unfold ayield at hy
  split at hy
  · rename_i b' hb'; cases hy; simp only [AWant, hb']; rw [hb]; cases want <;> rfl
  · cases hy
theorem ATK_guard_und {j : Nat} {want : Bool} (hy : ((ops[j]?).bind (·.dst)).map (fun d => sl.getD d .any) = some .und) (hs : aput sl dst .und = sl') (h : ATK P ops r sl' σ Q) : ATK P ops (⟨dst, op, ty, pos, after, some (j, want)⟩ :: r) sl σ Q :=
  ⟨.und, .inr ⟨by simp only [AWant, hy], rfl⟩, by rw [hs]; exact h⟩
theorem ATK_guard_yes {j : Nat} {want b : Bool} (hy : ayield ops sl j = some b) (hb : b = want) (h : ATK P ops (⟨dst, op, ty, pos, after, none⟩ :: r) sl σ Q) : ATK P ops (⟨dst, op, ty, pos, after, some (j, want)⟩ :: r) sl σ Q := by
  obtain ⟨av, h1, h2⟩ := h
  refine ⟨av, .inl ⟨?_, ?_⟩, h2⟩
  · unfold ayield at hy
    split at hy
    · rename_i b' hb'; cases hy; simp only [AWant, hb']; rw [hb]; cases want <;> rfl
    · cases hy
  · rcases h1 with h1 | h1
    · exact h1.2
    · exact absurd h1.1 (by simp [AWant])
def nthO : List Oper → Nat → Option Oper
  | [], _ => none
  | o :: _, 0 => some o
  | _ :: l, i + 1 => nthO l i
theorem nthO_eq : ∀ (l : List Oper) (i : Nat), nthO l i = l.toArray[i]?
  | [], i => by simp [nthO]
  | o :: l, 0 => by simp [nthO]
  | o :: l, i + 1 => by rw [nthO, nthO_eq l i]; simp
theorem AANY_take0 {n n' i : Nat} {o : Oper} {listed : Array Bool} (hn : n' = n + 1) (ho : ops[i]? = some o) (hs : Region.noSelect ops = true) (hr : (Region.ready .any ops listed).contains i = true) (hf : Region.free .any ops listed i = true) (h : ATK P ops [o] sl σ (AAnyQ P n ops (listed.setIfInBounds i true) Q)) : AANY P n' ops listed sl σ Q := by
  subst hn
  intro base Fi M0 w0 M a w hst hrel
  obtain ⟨av, h1, h2⟩ := h
  have key : ∃ v, YieldsIf P ops (fun w' => ∃ M', Stp base Fi M w M' w') o v a ∧ Reps M w av v := by
    rcases h1 with ⟨hw, hrun⟩ | ⟨hw, rfl⟩
    · obtain ⟨v, h3, h4⟩ := hrun M a w hrel.2.1
      exact ⟨v, .inl ⟨AWant_ok hrel.2.1 hw, fun w' hw' => h3 w' ⟨base, Fi, hw'⟩⟩, h4⟩
    · exact ⟨undef, .inr ⟨AWant_ok hrel.2.1 hw, rfl⟩, by unfold Reps; rfl⟩
  obtain ⟨v, hy, hv⟩ := key
  refine wpAnyH_take ho hs hf hr ?_ hy ⟨M, Stp.refl _ _ _ _⟩ (h2 base Fi M0 w0 M _ w hst ⟨?_, ?_, hrel.2.2⟩)
  · rintro c a w ⟨_, _, _, hF, _⟩
    exact hF.elim
  · cases o.dst <;> exact hrel.1
  · exact aput_reps hrel.2.1 o.dst hv

theorem AANY_take {l : List Oper} {n n' i : Nat} {o : Oper} {listed : Array Bool} (hn : n' = n + 1) (ho : nthO l i = some o) (hs : Region.noSelect l.toArray = true) (hr : (Region.ready .any l.toArray listed).contains i = true) (hf : Region.free .any l.toArray listed i = true) (h : ATK P l.toArray [o] sl σ (AAnyQ P n l.toArray (listed.setIfInBounds i true) Q)) : AANY P n' l.toArray listed sl σ Q :=
  AANY_take0 hn (by rw [← nthO_eq]; exact ho) hs hr hf h

/-! ### What comes in whatever order -/
/-- One that may come up next. -/
def ACand (P : Program) (n : Nat) (ops : Array Oper) (listed : Array Bool) (sl : List AV) (σ : ASt) (Q : Exit → List AV → ASt → Prop) (i : Nat) : Prop := i ∈ Region.ready .any ops listed → ∃ o, ops[i]? = some o ∧ AOPS P ops [o] sl σ (AAnyQ P n ops (listed.setIfInBounds i true) Q)
theorem ACand_no {n i : Nat} {listed : Array Bool} (h : (Region.ready .any ops listed).contains i = false) : ACand P n ops listed sl σ Q i := fun hi => by
  have : (Region.ready .any ops listed).contains i = true := by simpa using hi
  rw [h] at this; cases this
theorem ACand_yes {l : List Oper} {n i : Nat} {o : Oper} {listed : Array Bool} (ho : nthO l i = some o) (h : AOPS P l.toArray [o] sl σ (AAnyQ P n l.toArray (listed.setIfInBounds i true) Q)) : ACand P n l.toArray listed sl σ Q i := fun _ => ⟨o, by rw [← nthO_eq]; exact ho, h⟩
def ACands (P : Program) (n : Nat) (ops : Array Oper) (listed : Array Bool) (sl : List AV) (σ : ASt) (Q : Exit → List AV → ASt → Prop) : List Nat → Prop
  | [] => True
  | i :: es => ACand P n ops listed sl σ Q i ∧ ACands P n ops listed sl σ Q es
theorem ACands_nil {n : Nat} {listed : Array Bool} : ACands P n ops listed sl σ Q [] := trivial
theorem ACands_cons {n i : Nat} {es : List Nat} {listed : Array Bool} (h : ACand P n ops listed sl σ Q i) (k : ACands P n ops listed sl σ Q es) : ACands P n ops listed sl σ Q (i :: es) := ⟨h, k⟩
theorem ACands_all {n : Nat} {listed : Array Bool} : ∀ {es : List Nat}, ACands P n ops listed sl σ Q es → ∀ i ∈ es, ACand P n ops listed sl σ Q i
  | [], _, i, h => by cases h
  | e :: es, hc, i, h => by
    rcases List.mem_cons.1 h with rfl | h
    · exact hc.1
    · exact ACands_all hc.2 i h
theorem wp_to {o : Oper} {a : Act} {K K' : Act → World → Prop} {Q1 Q2 : Exit → Act → World → Prop} (hK : ∀ a w, K a w → K' a w) (hp : ∀ c a w, Q1 (.panic c) a w → Q2 (.panic c) a w) (ho : ∀ a w, ¬ Q1 .outgrown a w) (h : o.wp P a w K Q1) : o.wp P a w K' Q2 := by
  unfold Oper.wp at *
  generalize (execOp a.eval o).run P w = r at *
  cases r with
  | ok n w' =>
    cases n <;> simp only [Oper.upon] at h ⊢
    case value => exact hK _ _ h
    case skip => exact hK _ _ h
    case defer => exact hK _ _ h
    case enter f args =>
      refine Calls.mono h fun e w'' he => ?_
      cases e with
      | returned u => exact hK _ _ he
      | panicked c => exact hp _ _ _ he
      | outgrown => obtain ⟨a, w, h⟩ := he; exact absurd h (ho a w)
    case row => exact Rows.mono h fun _ _ he => hK _ _ he
  | halt x w' =>
    cases x <;> simp only [Oper.upon] at h ⊢
    case panic u => exact hp _ _ _ h
theorem AANY_step {n n' : Nat} (es : List Nat) {listed : Array Bool} (hn : n' = n + 1) (hr : (Region.ready .any ops listed).all (fun i => es.contains i) = true) (hne : (Region.ready .any ops listed).isEmpty = false) (h : ACands P n ops listed sl σ Q es) : AANY P n' ops listed sl σ Q := by
  subst hn
  intro base Fi M0 w0 M a w hst hrel
  refine wpAnyH_all (rs := Region.ready .any ops listed) rfl (fun e => by rw [e] at hne; cases hne) fun i hi => ?_
  have hmem : i ∈ es := by simpa using List.all_eq_true.1 hr i hi
  obtain ⟨o, ho, hop⟩ := ACands_all h i hmem hi
  have h1 := hop base Fi M w M a w (Stp.refl _ _ _ _) hrel
  unfold wpOp
  simp only [ho]
  unfold wpList at h1
  have hK : ∀ a' w', wpList P ops (Lift (AAnyQ P n ops (listed.setIfInBounds i true) Q) base Fi M w) [] a' w' → (∃ M', Stp base Fi M w M' w') ∧ wpAnyH P .any ops (Lift (NoP Q) base Fi M0 w0) (fun w' => ∃ M', Stp base Fi M w M' w') n (listed.setIfInBounds i true) a' w' := by
    rintro a' w' ⟨sl', σ', M', hq, hrel', hst'⟩
    refine ⟨⟨M', hst'⟩, wpAnyH_mono (S' := fun w'' => ∃ M'', Stp base Fi M' w' M'' w'') (fun w'' ⟨M'', h⟩ => ⟨M'', hst'.trans h⟩) ?_⟩
    exact hq base Fi M0 w0 M' a' w' (hst.trans hst') hrel'
  have hout : ∀ a w', ¬ Lift (AAnyQ P n ops (listed.setIfInBounds i true) Q) base Fi M w .outgrown a w' := by
    rintro a w' ⟨_, _, _, hF, _⟩; exact hF
  split
  · rename_i hw
    rw [if_pos hw] at h1
    rcases h1 with h1 | ⟨_, h1⟩
    · exact .inl (wp_to hK (by rintro c a w' ⟨_, _, _, hF, _⟩; exact hF.elim) hout h1)
    · obtain ⟨a, w', h1⟩ := h1; exact absurd h1 (hout a w')
  · rename_i hw
    rw [if_neg hw] at h1
    exact hK _ _ h1
theorem AWP_draw {n id : Nat} {l : List Oper} (hm : P.follows .mixedOrders = true) (hn : l.toArray.size = n) (h : AANY P n l.toArray (Array.replicate n false) sl σ Q) : AWP P (.region id l.toArray true) sl σ Q := by
  intro base Fi M0 w0 M a w hst hrel
  have G : Grew w { w with drawn := w.drawn + 1 } := ⟨rfl, rfl, rfl, Nat.le_refl _, fun _ _ => rfl⟩
  have S := G.stp hrel.2.2
  refine Code.wp_mono (fun e a w q => ?_) (wp_region_held (S := fun w' => ∃ M', Stp base Fi M { w with drawn := w.drawn + 1 } M' w') hm (by rw [hn]; exact h base Fi M0 w0 M a _ (hst.trans S) ⟨hrel.1, RepsL.stp S _ _ hrel.2.1, G.st hrel.2.2⟩))
  obtain ⟨sl', σ', M', q1, q2, q3⟩ := q
  exact ⟨sl', σ', M', q1.of, q2, q3⟩

/-! ### The rules -/
variable {objs : List (Int × List AV)} {toks : List (Int × Nat)} {next : Int}
theorem ATK_move {av : AV} (hx : aev sl x = av) (hs : aput sl dst av = sl') (h : ATK P ops r sl' σ Q) : ATK P ops (⟨dst, .move x, ty, pos, after, none⟩ :: r) sl σ Q :=
  ATK_pure rfl (fun M a w hr => ⟨_, fun _ _ => rfl, hx ▸ aev_reps hr x⟩) hs h
theorem ATK_assign {av : AV} (hx : aev sl x = av) (hs : aput sl dst av = sl') (h : ATK P ops r sl' σ Q) : ATK P ops (⟨dst, .assign x, ty, pos, after, none⟩ :: r) sl σ Q :=
  ATK_pure rfl (fun M a w hr => ⟨_, fun _ _ => rfl, hx ▸ aev_reps hr x⟩) hs h
theorem ATK_pick_t {c : Operand} {b : Bool} {av : AV} (hc : aev sl c = .bool b) (hb : b = true) (hx : aev sl x = av) (hs : aput sl dst av = sl') (h : ATK P ops r sl' σ Q) : ATK P ops (⟨dst, .pick c x y, ty, pos, after, none⟩ :: r) sl σ Q :=
  ATK_pure rfl (fun M a w hr => by
    have h1 := aev_reps hr c
    rw [hc, hb] at h1; unfold Reps at h1
    exact ⟨_, fun _ _ => by simp [execOp, h1, asBool], hx ▸ aev_reps hr x⟩) hs h
theorem ATK_pick_f {c : Operand} {b : Bool} {av : AV} (hc : aev sl c = .bool b) (hb : b = false) (hx : aev sl y = av) (hs : aput sl dst av = sl') (h : ATK P ops r sl' σ Q) : ATK P ops (⟨dst, .pick c x y, ty, pos, after, none⟩ :: r) sl σ Q :=
  ATK_pure rfl (fun M a w hr => by
    have h1 := aev_reps hr c
    rw [hc, hb] at h1; unfold Reps at h1
    exact ⟨_, fun _ _ => by simp [execOp, h1, asBool], hx ▸ aev_reps hr y⟩) hs h
theorem ATK_not {b : Bool} (hx : aev sl x = .bool b) (hs : aput sl dst (.bool (!b)) = sl') (h : ATK P ops r sl' σ Q) {t : TypeId} : ATK P ops (⟨dst, .unOp .not t x, ty, pos, after, none⟩ :: r) sl σ Q :=
  ATK_pure (av := .bool (!b)) rfl (fun M a w hr => by
    have h1 := aev_reps hr x
    rw [hx] at h1; unfold Reps at h1
    exact ⟨.bool (!b), fun w' _ => by simp [execOp, h1, Op.unary], by unfold Reps; rfl⟩) hs h
theorem ATK_bin {op : BinOp} {t t' : TypeId} {k : IntKind} {m n : Int} {av : AV} (hx : aev sl x = .int k m) (hy : aev sl y = .int k n) (ho : abin op k m n = some av) (hs : aput sl dst av = sl') (h : ATK P ops r sl' σ Q) : ATK P ops (⟨dst, .binOp op t x y t', ty, pos, after, none⟩ :: r) sl σ Q :=
  ATK_pure (av := av) rfl (fun M a w hr => by
    have h1 := aev_reps hr x
    have h2 := aev_reps hr y
    rw [hx] at h1; rw [hy] at h2; unfold Reps at h1 h2
    obtain ⟨v, h3, h4⟩ := abin_ok (P := P) ho t M w
    exact ⟨v, fun w' _ => by simp [execOp, h1, h2, h3, eqGuard_int], h4⟩) hs h
theorem ATK_shr {t t' : TypeId} {k k' : IntKind} {m n : Int} (hx : aev sl x = .int k m) (hy : aev sl y = .int k' n) (h0 : 0 ≤ n ∧ n ≤ k.bits) (hs : aput sl dst (.int k (m / 2 ^ n.toNat)) = sl') (h : ATK P ops r sl' σ Q) : ATK P ops (⟨dst, .binOp .shr t x y t', ty, pos, after, none⟩ :: r) sl σ Q :=
  ATK_pure (av := .int k (m / 2 ^ n.toNat)) rfl (fun M a w hr => by
    have h1 := aev_reps hr x
    have h2 := aev_reps hr y
    rw [hx] at h1; rw [hy] at h2; unfold Reps at h1 h2
    exact ⟨.int k (m / 2 ^ n.toNat), fun w' _ => by simp [execOp, h1, h2, binOp, eqGuard_int, shift_shr k k' m n h0.1 h0.2], by unfold Reps; rfl⟩) hs h
theorem ATK_shl {t t' : TypeId} {k k' : IntKind} {m n : Int} (hx : aev sl x = .int k m) (hy : aev sl y = .int k' n) (h0 : 0 ≤ n ∧ n ≤ k.bits) (hs : aput sl dst (.int k (k.wrap (m * 2 ^ n.toNat))) = sl') (h : ATK P ops r sl' σ Q) : ATK P ops (⟨dst, .binOp .shl t x y t', ty, pos, after, none⟩ :: r) sl σ Q :=
  ATK_pure (av := .int k (k.wrap (m * 2 ^ n.toNat))) rfl (fun M a w hr => by
    have h1 := aev_reps hr x
    have h2 := aev_reps hr y
    rw [hx] at h1; rw [hy] at h2; unfold Reps at h1 h2
    exact ⟨.int k (k.wrap (m * 2 ^ n.toNat)), fun w' _ => by simp [execOp, h1, h2, binOp, eqGuard_int, shift_shl k k' m n h0.1 h0.2], by unfold Reps; rfl⟩) hs h
theorem ATK_conv {src t : TypeId} {k k' : IntKind} {n : Int} (hx : aev sl x = .int k n) [T : TyInt P t k'] [T0 : TyInt P src k] (hs : aput sl dst (.int k' (k'.wrap n)) = sl') (h : ATK P ops r sl' σ Q) : ATK P ops (⟨dst, .convert src t x, ty, pos, after, none⟩ :: r) sl σ Q :=
  ATK_pure (av := .int k' (k'.wrap n)) rfl (fun M a w hr => by
    have h1 := aev_reps hr x
    rw [hx] at h1; unfold Reps at h1
    exact ⟨.int k' (k'.wrap n), fun w' _ => by simp [execOp, h1, convert, run_underlying T.und, run_underlying T0.und, Conv.intToInt], by unfold Reps; rfl⟩) hs h
theorem ATK_beq {t t' : TypeId} {b c : Bool} (hx : aev sl x = .bool b) (hy : aev sl y = .bool c) [T : TyBool P t] (hs : aput sl dst (.bool (b == c)) = sl') (h : ATK P ops r sl' σ Q) : ATK P ops (⟨dst, .binOp .eql t x y t', ty, pos, after, none⟩ :: r) sl σ Q :=
  ATK_pure (av := .bool (b == c)) rfl (fun M a w hr => by
    have h1 := aev_reps hr x
    have h2 := aev_reps hr y
    rw [hx] at h1; rw [hy] at h2; unfold Reps at h1 h2
    have h3 : ∀ w, (Op.equal t (.bool b) (.bool c)).run P w = .ok (b == c) w := fun w => run_equalIn_bool' w 9999 t b c T.und
    exact ⟨.bool (b == c), fun w' _ => by simp [execOp, h1, h2, binOp_eql_bool, eqGuard_bool, h3], Reps_bool⟩) hs h
theorem ATK_bne {t t' : TypeId} {b c : Bool} (hx : aev sl x = .bool b) (hy : aev sl y = .bool c) [T : TyBool P t] (hs : aput sl dst (.bool (b != c)) = sl') (h : ATK P ops r sl' σ Q) : ATK P ops (⟨dst, .binOp .neq t x y t', ty, pos, after, none⟩ :: r) sl σ Q :=
  ATK_pure (av := .bool (b != c)) rfl (fun M a w hr => by
    have h1 := aev_reps hr x
    have h2 := aev_reps hr y
    rw [hx] at h1; rw [hy] at h2; unfold Reps at h1 h2
    have h3 : ∀ w, (Op.equal t (.bool b) (.bool c)).run P w = .ok (b == c) w := fun w => run_equalIn_bool' w 9999 t b c T.und
    exact ⟨.bool (!(b == c)), fun w' _ => by simp [execOp, h1, h2, binOp_neq_bool, eqGuard_bool, h3], Reps_bool⟩) hs h
theorem ATK_len_sl {t : TypeId} {own : AOwn} {cells : List AV} {n : Nat} (hx : aev sl x = .sl own cells n) {e : TypeId} {sz by_ : Nat} [T : TySl P t e sz by_] (hs : aput sl dst (.int .i64 n) = sl') (h : ATK P ops r sl' σ Q) : ATK P ops (⟨dst, .call { callee := .builtin .len, args := #[x], argTypes := #[t] }, ty, pos, after, none⟩ :: r) sl σ Q :=
  ATK_pure (av := .int .i64 n) rfl (fun M a w hr => by
    have h1 := ev1 hr hx
    unfold Reps at h1
    obtain ⟨A, c, vs, h1, _⟩ := h1
    exact ⟨.int .i64 n, fun w' L => by simp [execOp, h1, resolve, invoke, builtin, Builtin.len_, run_underlying T.und, goInt], Reps_int⟩) hs h
theorem ATK_len_nils {t : TypeId} (hx : aev sl x = .nils) {e : TypeId} {sz by_ : Nat} [T : TySl P t e sz by_] (hs : aput sl dst (.int .i64 0) = sl') (h : ATK P ops r sl' σ Q) : ATK P ops (⟨dst, .call { callee := .builtin .len, args := #[x], argTypes := #[t] }, ty, pos, after, none⟩ :: r) sl σ Q :=
  ATK_pure (av := .int .i64 0) rfl (fun M a w hr => by
    have h1 := ev1 hr hx
    unfold Reps at h1
    exact ⟨.int .i64 0, fun w' L => by simp [execOp, h1, resolve, invoke, builtin, Builtin.len_, run_underlying T.und, goInt], Reps_int⟩) hs h
theorem ATK_len_row {t : TypeId} {id : Int} {off n : Nat} (hx : aev sl x = .row id off n) {e : TypeId} {sz by_ : Nat} [T : TySl P t e sz by_] (hs : aput sl dst (.int .i64 n) = sl') (h : ATK P ops r sl' σ Q) : ATK P ops (⟨dst, .call { callee := .builtin .len, args := #[x], argTypes := #[t] }, ty, pos, after, none⟩ :: r) sl σ Q :=
  ATK_pure (av := .int .i64 n) rfl (fun M a w hr => by
    have h1 := ev1 hr hx
    unfold Reps at h1
    obtain ⟨b, _, h1, _⟩ := h1
    exact ⟨.int .i64 n, fun w' L => by simp [execOp, h1, resolve, invoke, builtin, Builtin.len_, run_underlying T.und, goInt], Reps_int⟩) hs h
theorem ATK_len_str {t : TypeId} {s : List UInt8} (hx : aev sl x = .str s) [T : TyStr P t] (hs : aput sl dst (.int .i64 s.length) = sl') (h : ATK P ops r sl' σ Q) : ATK P ops (⟨dst, .call { callee := .builtin .len, args := #[x], argTypes := #[t] }, ty, pos, after, none⟩ :: r) sl σ Q :=
  ATK_pure (av := .int .i64 s.length) rfl (fun M a w hr => by
    have h1 := ev1 hr hx
    unfold Reps at h1
    exact ⟨.int .i64 s.length, fun w' L => by simp [execOp, h1.1, resolve, invoke, builtin, Builtin.len_, run_underlying T.und, goInt, ba_size], Reps_int⟩) hs h
theorem ATK_len_arr {t e : TypeId} {n : Nat} [T : TyArr P t n e] (hs : aput sl dst (.int .i64 n) = sl') (h : ATK P ops r sl' σ Q) : ATK P ops (⟨dst, .call { callee := .builtin .len, args := #[x], argTypes := #[t] }, ty, pos, after, none⟩ :: r) sl σ Q :=
  ATK_pure (av := .int .i64 n) rfl (fun M a w hr => by
    exact ⟨.int .i64 n, fun w' L => by simp [execOp, resolve, invoke, builtin, Builtin.len_, run_underlying T.und, goInt], Reps_int⟩) hs h
theorem ATK_fieldAddr {t : TypeId} {f off o : Nat} {id : Int} {agg : Bool} {sz : Nat} (hx : aev sl x = .ptr id o) [T : TyFldS P t f off agg sz] (hs : aput sl dst (.ptr id (o + off)) = sl') (h : ATK P ops r sl' σ Q) : ATK P ops (⟨dst, .fieldAddr t x f, ty, pos, after, none⟩ :: r) sl σ Q :=
  ATK_pure (av := .ptr id (o + off)) rfl (fun M a w hr => by
    have h1 := ev1 hr hx
    unfold Reps at h1
    obtain ⟨b, h0, h1⟩ := h1
    exact ⟨.pointer (some ⟨b, o + off, none⟩), fun w' L => by simp [execOp, h1, fieldAt_ok], by unfold Reps; exact ⟨b, h0, rfl⟩⟩) hs h
theorem ATK_fieldAddr_epr {t : TypeId} {f off o : Nat} {cells : List AV} {agg : Bool} {sz : Nat} (hx : aev sl x = .epr cells o) [T : TyFldS P t f off agg sz] (hs : aput sl dst (.epr cells (o + off)) = sl') (h : ATK P ops r sl' σ Q) : ATK P ops (⟨dst, .fieldAddr t x f, ty, pos, after, none⟩ :: r) sl σ Q :=
  ATK_pure (av := .epr cells (o + off)) rfl (fun M a w hr => by
    have h1 := ev1 hr hx
    unfold Reps at h1
    obtain ⟨b, o', vs, h1, h2, h3⟩ := h1
    exact ⟨.pointer (some ⟨b, o' + o + off, none⟩), fun w' L => by simp [execOp, h1, fieldAt_ok], by unfold Reps; exact ⟨b, o', vs, by rw [Nat.add_assoc], h2, h3⟩⟩) hs h
theorem ATK_field {t : TypeId} {f off : Nat} {agg : Bool} {sz : Nat} {cells : List AV} {av : AV} (hx : aev sl x = .agg cells) [T : TyFldS P t f off agg sz] (hp : apart agg sz cells off = some av) (hs : aput sl dst av = sl') (h : ATK P ops r sl' σ Q) : ATK P ops (⟨dst, .field t x f, ty, pos, after, none⟩ :: r) sl σ Q :=
  ATK_pure (av := av) rfl (fun M a w hr => by
    have h1 := ev1 hr hx
    unfold Reps at h1
    obtain ⟨vs, h1, h2⟩ := h1
    obtain ⟨ft, F, V⟩ := T.fld
    obtain ⟨fs, x, h3, h4, rfl, rfl⟩ := F.und
    obtain ⟨v, h5, h6⟩ := apart_ok V h2 hp
    exact ⟨v, fun w' L => by simp [execOp, h1, Instr.field, run_underlying h3, h4, asAgg, h5], h6⟩) hs h
theorem ATK_indexAddr {t e : TypeId} {sz by_ : Nat} {own : AOwn} {cells : List AV} {n : Nat} {k : IntKind} {i : Int} (hx : aev sl x = .sl own cells n) (hy : aev sl y = .int k i) [T : TySl P t e sz by_] (hi : 0 ≤ i ∧ i < n) (hs : aput sl dst (.epr cells (i.toNat * sz)) = sl') (h : ATK P ops r sl' σ Q) : ATK P ops (⟨dst, .indexAddr t x y, ty, pos, after, none⟩ :: r) sl σ Q :=
  ATK_pure (av := .epr cells (i.toNat * sz)) rfl (fun M a w hr => by
    have h1 := ev1 hr hx
    have h2 := ev1 hr hy
    unfold Reps at h1 h2
    obtain ⟨A, c, vs, h1, h3, h4, h5, h6, h7, _⟩ := h1
    obtain ⟨b, o, rfl, hm⟩ := h6.resolve_left (by omega)
    have h8 := fun w => T.sizeOf w
    exact ⟨.pointer (some ⟨b, o + i.toNat * sz, none⟩), fun w' L => by simp [execOp, h1, h2, Instr.indexAt, run_underlying T.und, asIntOf, hi, h8, addr_add], by unfold Reps; exact ⟨b, o, vs, rfl, hm, h7⟩⟩) hs h
theorem ATK_indexAddr_row {t e : TypeId} {sz by_ : Nat} {id : Int} {off n : Nat} {k : IntKind} {i : Int} (hx : aev sl x = .row id off n) (hy : aev sl y = .int k i) [T : TySl P t e sz by_] (hi : 0 ≤ i ∧ i < n) (hs : aput sl dst (.ptr id (off + i.toNat * sz)) = sl') (h : ATK P ops r sl' σ Q) : ATK P ops (⟨dst, .indexAddr t x y, ty, pos, after, none⟩ :: r) sl σ Q :=
  ATK_pure (av := .ptr id (off + i.toNat * sz)) rfl (fun M a w hr => by
    have h1 := ev1 hr hx
    have h2 := ev1 hr hy
    unfold Reps at h1 h2
    obtain ⟨b, h0, h1, _⟩ := h1
    have h8 := fun w => T.sizeOf w
    exact ⟨.pointer (some ⟨b, off + i.toNat * sz, none⟩), fun w' L => by simp [execOp, h1, h2, Instr.indexAt, run_underlying T.und, asIntOf, hi, h8, addr_add], by unfold Reps; exact ⟨b, h0, rfl⟩⟩) hs h
theorem ATK_indexAddr_arr {t e : TypeId} {sz m : Nat} {agg : Bool} {id : Int} {off : Nat} {k : IntKind} {i : Int} (hx : aev sl x = .ptr id off) (hy : aev sl y = .int k i) [T : TyArr P t m e] [V : TyVar P e agg sz] (hi : 0 ≤ i ∧ i < m) (hs : aput sl dst (.ptr id (off + i.toNat * sz)) = sl') (h : ATK P ops r sl' σ Q) : ATK P ops (⟨dst, .indexAddr t x y, ty, pos, after, none⟩ :: r) sl σ Q :=
  ATK_pure (av := .ptr id (off + i.toNat * sz)) rfl (fun M a w hr => by
    have h1 := ev1 hr hx
    have h2 := ev1 hr hy
    unfold Reps at h1 h2
    obtain ⟨b, h0, h1⟩ := h1
    have h8 := fun w => V.sizeOf w
    exact ⟨.pointer (some ⟨b, off + i.toNat * sz, none⟩), fun w' L => by simp [execOp, h1, h2, Instr.indexAt, run_underlying T.und, asIntOf, Instr.sureAddr, hi, h8, addr_add], by unfold Reps; exact ⟨b, h0, rfl⟩⟩) hs h
theorem ATK_index_arr {t e : TypeId} {sz m : Nat} {agg : Bool} {cells : List AV} {k : IntKind} {i : Int} {av : AV} (hx : aev sl x = .agg cells) (hy : aev sl y = .int k i) [T : TyArr P t m e] [V : TyVar P e agg sz] (hi : 0 ≤ i ∧ i < m) (hp : apart agg sz cells (i.toNat * sz) = some av) (hs : aput sl dst av = sl') (h : ATK P ops r sl' σ Q) : ATK P ops (⟨dst, .index t x y, ty, pos, after, none⟩ :: r) sl σ Q :=
  ATK_pure (av := av) rfl (fun M a w hr => by
    have h1 := ev1 hr hx
    have h2 := ev1 hr hy
    unfold Reps at h1 h2
    obtain ⟨vs, h1, h3⟩ := h1
    have h8 := fun w => V.sizeOf w
    obtain ⟨v, h5, h6⟩ := apart_ok V h3 hp
    exact ⟨v, fun w' L => by simp [execOp, h1, h2, Instr.index, run_underlying T.und, asIntOf, hi, h8, h5], h6⟩) hs h
theorem ATK_load_epr {t : TypeId} {agg : Bool} {sz off : Nat} {cells : List AV} {av : AV} (hx : aev sl x = .epr cells off) [T : TyVar P t agg sz] (hp : aload agg sz cells off = some av) (hs : aput sl dst av = sl') (h : ATK P ops r sl' σ Q) : ATK P ops (⟨dst, .load t x, ty, pos, after, none⟩ :: r) sl σ Q :=
  ATK_pure (av := av) rfl (fun M a w hr => by
    have h1 := ev1 hr hx
    unfold Reps at h1
    obtain ⟨b, o, vs, h1, h2, h3⟩ := h1
    obtain ⟨v, h5, h6⟩ := loadVar_ok T h3 (L := Later M w) (fun w' L j u hu => (h2.later L j u hu)) hp
    exact ⟨v, fun w' L => by simp [execOp, h1, Instr.loadAt, Instr.sureAddr, h5 w' L], h6⟩) hs h
theorem ATK_slice_lh {t e : TypeId} {sz by_ : Nat} {own : AOwn} {cells : List AV} {n l m : Nat} {k k' : IntKind} {i j : Int} (hx : aev sl x = .sl own cells n) [T : TySl P t e sz by_] (hy : aev sl y = .int k i) (hz : aev sl z = .int k' j) (hl : i = (l : Int)) (hh : j = (m : Int)) (hlm : l ≤ m ∧ m ≤ n) (hs : aput sl dst (.sl .none ((cells.drop (l * sz)).take ((m - l) * sz)) (m - l)) = sl') (h : ATK P ops r sl' σ Q) : ATK P ops (⟨dst, .slice t x (some y) (some z) none, ty, pos, after, none⟩ :: r) sl σ Q :=
  ATK_pure (av := .sl .none ((cells.drop (l * sz)).take ((m - l) * sz)) (m - l)) rfl (fun M a w hr => by
    have h1 := ev1 hr hx
    have h2 := ev1 hr hy
    have h3 := ev1 hr hz
    unfold Reps at h1 h2 h3
    obtain ⟨A, c, vs, h1, h4, h5, h6, h7, h8, h9, _⟩ := h1
    subst hl hh
    have h10 := fun w => T.sizeOf w
    refine ⟨_, fun w' L => ?_, Reps.cut (own := own) (b := 0) hlm.1 hlm.2 h4 h5 h6 h7 h8⟩
    have h11 : l ≤ m := hlm.1
    have h12 : m ≤ c := by omega
    simp [execOp, h1, h2, h3, Instr.sliceAt, Instr.slice, run_underlying T.und, Instr.sliceBounds, Instr.sliceBound, asIntOf, h11, h12, h10]) hs h
theorem ATK_slice_h {t e : TypeId} {sz by_ : Nat} {own : AOwn} {cells : List AV} {n m : Nat} {k' : IntKind} {j : Int} (hx : aev sl x = .sl own cells n) [T : TySl P t e sz by_] (hz : aev sl z = .int k' j) (hh : j = (m : Int)) (hlm : m ≤ n) (hs : aput sl dst (.sl .none (cells.take (m * sz)) m) = sl') (h : ATK P ops r sl' σ Q) : ATK P ops (⟨dst, .slice t x none (some z) none, ty, pos, after, none⟩ :: r) sl σ Q :=
  ATK_pure (av := .sl .none (cells.take (m * sz)) m) rfl (fun M a w hr => by
    have h1 := ev1 hr hx
    have h3 := ev1 hr hz
    unfold Reps at h1 h3
    obtain ⟨A, c, vs, h1, h4, h5, h6, h7, h8, h9, _⟩ := h1
    subst hh
    have h10 := fun w => T.sizeOf w
    have key := Reps.cut (own := own) (b := 0) (sz := sz) (Nat.zero_le m) hlm h4 h5 h6 h7 h8
    simp only [Nat.zero_mul, List.drop_zero, Nat.sub_zero] at key
    refine ⟨_, fun w' L => ?_, key⟩
    have h12 : m ≤ c := by omega
    have h13 : ¬ c < m := by omega
    simp [execOp, h1, h3, Instr.sliceAt, Instr.slice, run_underlying T.und, Instr.sliceBounds, Instr.sliceBound, asIntOf, h12, h10, h13]) hs h
theorem ATK_slice_l {t e : TypeId} {sz by_ : Nat} {own : AOwn} {cells : List AV} {n l : Nat} {k : IntKind} {i : Int} (hx : aev sl x = .sl own cells n) [T : TySl P t e sz by_] (hy : aev sl y = .int k i) (hl : i = (l : Int)) (hlm : l ≤ n) (hs : aput sl dst (.sl .none ((cells.drop (l * sz)).take ((n - l) * sz)) (n - l)) = sl') (h : ATK P ops r sl' σ Q) : ATK P ops (⟨dst, .slice t x (some y) none none, ty, pos, after, none⟩ :: r) sl σ Q :=
  ATK_pure (av := .sl .none ((cells.drop (l * sz)).take ((n - l) * sz)) (n - l)) rfl (fun M a w hr => by
    have h1 := ev1 hr hx
    have h2 := ev1 hr hy
    unfold Reps at h1 h2
    obtain ⟨A, c, vs, h1, h4, h5, h6, h7, h8, h9, _⟩ := h1
    subst hl
    have h10 := fun w => T.sizeOf w
    refine ⟨_, fun w' L => ?_, Reps.cut (own := own) (b := 0) hlm (Nat.le_refl n) h4 h5 h6 h7 h8⟩
    have h11 : l ≤ n := by omega
    have h13 : ¬ n < l := by omega
    simp [execOp, h1, h2, Instr.sliceAt, Instr.slice, run_underlying T.und, Instr.sliceBounds, Instr.sliceBound, asIntOf, h11, h10, h13]) hs h
theorem ATK_string {src t e : TypeId} {sz by_ : Nat} {own : AOwn} {l : List UInt8} {n : Nat} {cells : List AV} (hx : aev sl x = .sl own cells n) [T : TySl P src e sz by_] [B : TyInt P e .u8] [S : TyStr P t] (hb : cells = l.map bvA) (hl : l.length = n) (hs : aput sl dst (.str l) = sl') (h : ATK P ops r sl' σ Q) : ATK P ops (⟨dst, .convert src t x, ty, pos, after, none⟩ :: r) sl σ Q :=
  ATK_pure (av := .str l) rfl (fun M a w hr => by
    have h1 := ev1 hr hx
    rw [hb] at h1
    obtain ⟨A, c, h2, h3⟩ := h1.rd hl
    have h4 := fun w' (L : Later M w w') => run_string_rd (P := P) T.und B.und S.und (h1.rd_later hl h2 L)
    refine ⟨.string ⟨l.toArray⟩, fun w' L => by simp only [execOp, h2, Sem.run_bind, h4 w' L, Result.andThen_ok, Sem.run_pure], ?_⟩
    unfold Reps
    exact ⟨rfl, by have := h3.cap; have := h3.max; omega⟩) hs h
theorem ATK_string_nils {src t e : TypeId} {sz by_ : Nat} (hx : aev sl x = .nils) [T : TySl P src e sz by_] [B : TyInt P e .u8] [S : TyStr P t] (hs : aput sl dst (.str []) = sl') (h : ATK P ops r sl' σ Q) : ATK P ops (⟨dst, .convert src t x, ty, pos, after, none⟩ :: r) sl σ Q :=
  ATK_pure (av := .str []) rfl (fun M a w hr => by
    have h1 := ev1 hr hx
    unfold Reps at h1
    have h4 := fun w' => run_string_rd (P := P) (w := w') T.und B.und S.und (bs := []) (A := none) (n := 0) (c := 0) ⟨by simp [bvs], Nat.le_refl _, by simp, fun _ => rfl, .inl rfl⟩
    refine ⟨.string ⟨[].toArray⟩, fun w' L => by simp only [execOp, h1, Sem.run_bind, h4, Result.andThen_ok, Sem.run_pure], ?_⟩
    unfold Reps
    exact ⟨rfl, by simp⟩) hs h
theorem ATK_str {op : BinOp} {t t' : TypeId} {s u : List UInt8} {av : AV} (hx : aev sl x = .str s) (hy : aev sl y = .str u) (ho : astr op s u = some av) (hs : aput sl dst av = sl') (h : ATK P ops r sl' σ Q) : ATK P ops (⟨dst, .binOp op t x y t', ty, pos, after, none⟩ :: r) sl σ Q :=
  ATK_pure (av := av) rfl (fun M a w hr => by
    have h1 := ev1 hr hx
    have h2 := ev1 hr hy
    unfold Reps at h1 h2
    obtain ⟨v, h3, h4⟩ := astr_ok (P := P) ho t M w
    exact ⟨v, fun w' L => by simp [execOp, h1.1, h2.1, h3, eqGuard_str], h4⟩) hs h
theorem ATK_iface {t : TypeId} {av : AV} (hx : aev sl x = av) [T : TyConc P t] (hs : aput sl dst (.iface t av) = sl') (h : ATK P ops r sl' σ Q) : ATK P ops (⟨dst, .makeInterface t x, ty, pos, after, none⟩ :: r) sl σ Q :=
  ATK_pure (av := .iface t av) rfl (fun M a w hr => by
    obtain ⟨d, hd, hni⟩ := T.und
    refine ⟨.iface t (a.eval x), fun w L => ?_, by unfold Reps; exact ⟨_, rfl, ev1 hr hx⟩⟩
    have h2 : (Instr.makeInterface t (a.eval x)).run P w = .ok (.iface t (a.eval x)) w := by
      unfold Instr.makeInterface
      simp only [Sem.run_bind, run_underlying hd, Result.andThen_ok]
      cases d <;> first | exact absurd rfl (hni _) | rfl
    simp [execOp, h2]) hs h
theorem ATK_assert_yes {t u : TypeId} {av : AV} (hx : aev sl x = .iface t av) [T : TyConc P t] (hs : aput sl dst (.tup [av, .bool true]) = sl') (h : ATK P ops r sl' σ Q) : ATK P ops (⟨dst, .typeAssert x u t true, ty, pos, after, none⟩ :: r) sl σ Q :=
  ATK_pure (av := .tup [av, .bool true]) rfl (fun M a w hr => by
    have h1 := ev1 hr hx
    unfold Reps at h1
    obtain ⟨v, h1, h2⟩ := h1
    obtain ⟨d, hd, hni⟩ := T.und
    have h3 := fun w => run_typeAssert_yes (P := P) hd hni u v w
    exact ⟨.tuple #[v, .bool true], by simp [execOp, h1, h3], by unfold Reps; exact ⟨_, rfl, RepsL.cons h2 (RepsL.one Reps_bool)⟩⟩) hs h
theorem ATK_extract {cs : List AV} {i : Nat} {av : AV} (hx : aev sl x = .tup cs) (hi : cs[i]? = some av) (hs : aput sl dst av = sl') (h : ATK P ops r sl' σ Q) : ATK P ops (⟨dst, .extract x i, ty, pos, after, none⟩ :: r) sl σ Q :=
  ATK_pure (av := av) rfl (fun M a w hr => by
    have h1 := ev1 hr hx
    unfold Reps at h1
    obtain ⟨vs, h1, h2⟩ := h1
    obtain ⟨v, h3, h4⟩ := h2.get i av hi
    have h5 : vs[i]? = some v := by simpa using h3
    exact ⟨v, fun w' L => by simp [execOp, h1, Instr.extract, h5], h4⟩) hs h
theorem ATK_makeFunc {f : FuncId} {first captured : List Operand} {cs fs : List AV} (h1 : first.map (aev sl) = fs) (h2 : captured.map (aev sl) = cs) (hs : aput sl dst (.fn f fs cs) = sl') (h : ATK P ops r sl' σ Q) : ATK P ops (⟨dst, .makeFunc (.func f) first.toArray captured.toArray, ty, pos, after, none⟩ :: r) sl σ Q :=
  ATK_pure (av := .fn f fs cs) rfl (fun M a w hr => by
    subst h1 h2
    exact ⟨.func (.func f) (first.map a.eval).toArray (captured.map a.eval).toArray, fun w' L => by simp [execOp, Instr.makeFunc], by unfold Reps; exact ⟨_, _, rfl, evs hr first, evs hr captured⟩⟩) hs h
theorem ATK_nilCheck {id : Int} {off : Nat} (hx : aev sl x = .ptr id off) (hs : aput sl dst (.ptr id off) = sl') (h : ATK P ops r sl' σ Q) : ATK P ops (⟨dst, .nilCheck x, ty, pos, after, none⟩ :: r) sl σ Q :=
  ATK_pure (av := .ptr id off) rfl (fun M a w hr => by
    have h1 := ev1 hr hx
    have h2 := h1
    unfold Reps at h1
    obtain ⟨b, h0, h1⟩ := h1
    exact ⟨.pointer (some ⟨b, off, none⟩), fun w' L => by simp [execOp, h1], by rw [← h1]; exact h2⟩) hs h
theorem ATK_build {t : TypeId} {agg : Bool} {zs : List Value} {pl : List (Nat × Nat)} {ps : List (Nat × Operand)} {aps : List (Nat × AV)} {cells : List AV} [T : TyPlaces P t pl] [Z : TyZero P t agg zs] (hp : aparts sl ps = aps) (hf : afill (fun i => pl[i]?) (zs.map cav) aps = some cells) (hs : aput sl dst (.agg cells) = sl') (h : ATK P ops r sl' σ Q) : ATK P ops (⟨dst, .build t ps.toArray, ty, pos, after, none⟩ :: r) sl σ Q :=
  ATK_pure (av := .agg cells) rfl (fun M a w hr => by
    subst hp
    obtain ⟨fs, h1, h2⟩ := T.pl
    obtain ⟨i, z, k1, k2, hzs, _⟩ := Z.zero
    have hz : ∀ w : World, (zeroValue t).run P w = .ok z w := fun w => by simp [zeroValue, typeInfo, k1, k2]
    obtain ⟨vs', h3, h4⟩ := afill_ok (vs := z.cells) (by rw [hzs]; exact cavs_reps zs) (aparts_ok hr ps) hf
    refine ⟨.agg vs', fun w' L => ?_, by unfold Reps; exact ⟨_, rfl, h4⟩⟩
    have h5 := h2 w'
    have h3' : Instr.fill (fun x => pl.toArray[x]?) z.cells (ps.map fun p => (p.1, a.eval p.2)) = some vs' := by simpa using h3
    simp only [execOp, Instr.build, Sem.run_bind, hz, Result.andThen_ok, run_underlying h1, h5, List.map_toArray]
    rw [h3']
    rfl) hs h
theorem TS_move {av : AV} (hx : aevo sl x = some av) (hs : aput sl dst av = sl') (h : ATK P ops r sl' σ Q) : ATK P ops (⟨dst, .move x, ty, pos, after, none⟩ :: r) sl σ Q := ATK_move (aevo_eq hx) hs h
theorem TS_assign {av : AV} (hx : aevo sl x = some av) (hs : aput sl dst av = sl') (h : ATK P ops r sl' σ Q) : ATK P ops (⟨dst, .assign x, ty, pos, after, none⟩ :: r) sl σ Q := ATK_assign (aevo_eq hx) hs h
theorem TS_pick_t {c : Operand} {b : Bool} {av : AV} (hc : aev sl c = .bool b) (hb : b = true) (hx : aevo sl x = some av) (hs : aput sl dst av = sl') (h : ATK P ops r sl' σ Q) : ATK P ops (⟨dst, .pick c x y, ty, pos, after, none⟩ :: r) sl σ Q := ATK_pick_t hc hb (aevo_eq hx) hs h
theorem TS_pick_f {c : Operand} {b : Bool} {av : AV} (hc : aev sl c = .bool b) (hb : b = false) (hx : aevo sl y = some av) (hs : aput sl dst av = sl') (h : ATK P ops r sl' σ Q) : ATK P ops (⟨dst, .pick c x y, ty, pos, after, none⟩ :: r) sl σ Q := ATK_pick_f hc hb (aevo_eq hx) hs h
theorem TS_iface {t : TypeId} {av : AV} (hx : aevo sl x = some av) [T : TyConc P t] (hs : aput sl dst (.iface t av) = sl') (h : ATK P ops r sl' σ Q) : ATK P ops (⟨dst, .makeInterface t x, ty, pos, after, none⟩ :: r) sl σ Q := ATK_iface (aevo_eq hx) hs h
theorem TS_load_epr {t : TypeId} {sz off : Nat} {cells : List AV} {av : AV} (hx : aev sl x = .epr cells off) [T : TyVar P t false sz] (hp : cells[off]? = some av) (hs : aput sl dst av = sl') (h : ATK P ops r sl' σ Q) : ATK P ops (⟨dst, .load t x, ty, pos, after, none⟩ :: r) sl σ Q :=
  ATK_load_epr hx (by simp [aload, hp]) hs h
theorem TS_load_epr_agg {t : TypeId} {sz off : Nat} {cells cs : List AV} (hx : aev sl x = .epr cells off) [T : TyVar P t true sz] (hle : off + sz ≤ cells.length) (hp : (cells.drop off).take sz = cs) (hs : aput sl dst (.agg cs) = sl') (h : ATK P ops r sl' σ Q) : ATK P ops (⟨dst, .load t x, ty, pos, after, none⟩ :: r) sl σ Q :=
  ATK_load_epr hx (by simp only [aload, if_true]; rw [if_pos hle, hp]) hs h
theorem TS_extract {cs : List AV} {i : Nat} {av : AV} (hx : aev sl x = .tup cs) (hi : cs[i]? = some av) (hs : aput sl dst av = sl') (h : ATK P ops r sl' σ Q) : ATK P ops (⟨dst, .extract x i, ty, pos, after, none⟩ :: r) sl σ Q := ATK_extract hx hi hs h
theorem TS_field {t : TypeId} {f off : Nat} {sz : Nat} {cells : List AV} {av : AV} (hx : aev sl x = .agg cells) [T : TyFldS P t f off false sz] (hp : cells[off]? = some av) (hs : aput sl dst av = sl') (h : ATK P ops r sl' σ Q) : ATK P ops (⟨dst, .field t x f, ty, pos, after, none⟩ :: r) sl σ Q := ATK_field hx (by simp [apart, hp]) hs h
theorem TS_add {t t' : TypeId} {m n : Int} (hx : aev sl x = .int .i64 m) (hy : aev sl y = .int .i64 n) (hb : -9223372036854775808 ≤ m + n ∧ m + n ≤ 9223372036854775807) (hs : aput sl dst (.int .i64 (m + n)) = sl') (h : ATK P ops r sl' σ Q) : ATK P ops (⟨dst, .binOp .add t x y t', ty, pos, after, none⟩ :: r) sl σ Q :=
  ATK_bin hx hy (show abin .add .i64 m n = some (.int .i64 (m + n)) by simp only [abin]; rw [show IntKind.i64.wrap (m + n) = m + n by rw [IntKind.wrap_i64]; omega]) hs h
theorem TS_sub {t t' : TypeId} {m n : Int} (hx : aev sl x = .int .i64 m) (hy : aev sl y = .int .i64 n) (hb : -9223372036854775808 ≤ m - n ∧ m - n ≤ 9223372036854775807) (hs : aput sl dst (.int .i64 (m - n)) = sl') (h : ATK P ops r sl' σ Q) : ATK P ops (⟨dst, .binOp .sub t x y t', ty, pos, after, none⟩ :: r) sl σ Q :=
  ATK_bin hx hy (show abin .sub .i64 m n = some (.int .i64 (m - n)) by simp only [abin]; rw [show IntKind.i64.wrap (m - n) = m - n by rw [IntKind.wrap_i64]; omega]) hs h
theorem TS_bin {op : BinOp} {t t' : TypeId} {k : IntKind} {m n : Int} {av : AV} (hx : aev sl x = .int k m) (hy : aev sl y = .int k n) (ho : abin op k m n = some av) (hs : aput sl dst av = sl') (h : ATK P ops r sl' σ Q) : ATK P ops (⟨dst, .binOp op t x y t', ty, pos, after, none⟩ :: r) sl σ Q := ATK_bin hx hy ho hs h
theorem TS_build {t : TypeId} {agg : Bool} {zs : List Value} {pl : List (Nat × Nat)} {ps : List (Nat × Operand)} {cells zc : List AV} [T : TyPlaces P t pl] [Z : TyZero P t agg zs] (hz : zerosF zs 1 = zc) (hf : fillF sl (fun i => pl[i]?) zc ps = some cells) (hs : aput sl dst (.agg cells) = sl') (h : ATK P ops r sl' σ Q) : ATK P ops (⟨dst, .build t ps.toArray, ty, pos, after, none⟩ :: r) sl σ Q := by
  refine ATK_build rfl (cells := cells) (fillF_ok ?_) hs h
  rw [← hf, ← hz]
  simp [zerosF]
theorem TS_load_epr_sub {t : TypeId} {sz off : Nat} {cells cs : List AV} (hx : aev sl x = .epr cells off) [T : TyVar P t true sz] (hp : subF off sz cells = some cs) (hs : aput sl dst (.agg cs) = sl') (h : ATK P ops r sl' σ Q) : ATK P ops (⟨dst, .load t x, ty, pos, after, none⟩ :: r) sl σ Q := by
  obtain ⟨h1, h2⟩ := subF_ok hp
  exact ATK_load_epr hx (by simp only [aload, if_true]; rw [if_pos h2, h1]) hs h
theorem TS_quo {t t' : TypeId} {m n : Int} (hx : aev sl x = .int .i64 m) (hy : aev sl y = .int .i64 n) (hb : 0 ≤ m ∧ m ≤ 9223372036854775807 ∧ 0 < n) (hs : aput sl dst (.int .i64 (m / n)) = sl') (h : ATK P ops r sl' σ Q) : ATK P ops (⟨dst, .binOp .quo t x y t', ty, pos, after, none⟩ :: r) sl σ Q :=
  ATK_bin hx hy (show abin .quo .i64 m n = some (.int .i64 (m / n)) by
    simp only [abin]
    rw [if_neg (by omega), Int.tdiv_eq_ediv_of_nonneg hb.1, show IntKind.i64.wrap (m / n) = m / n by
      rw [IntKind.wrap_i64]
      have h1 : 0 ≤ m / n := Int.ediv_nonneg hb.1 (by omega)
      have h2 : m / n ≤ m := Int.ediv_le_self n hb.1
      omega]) hs h
theorem TS_rem {t t' : TypeId} {m n : Int} (hx : aev sl x = .int .i64 m) (hy : aev sl y = .int .i64 n) (hb : 0 ≤ m ∧ 0 < n) (hs : aput sl dst (.int .i64 (m % n)) = sl') (h : ATK P ops r sl' σ Q) : ATK P ops (⟨dst, .binOp .rem t x y t', ty, pos, after, none⟩ :: r) sl σ Q :=
  ATK_bin hx hy (show abin .rem .i64 m n = some (.int .i64 (m % n)) by
    simp only [abin]
    rw [if_neg (by omega), Int.tmod_eq_emod_of_nonneg hb.1]) hs h
theorem TS_conv_same {src t : TypeId} {n : Int} (hx : aev sl x = .int .i64 n) [T : TyInt P t .i64] [T0 : TyInt P src .i64] (hb : -9223372036854775808 ≤ n ∧ n ≤ 9223372036854775807) (hs : aput sl dst (.int .i64 n) = sl') (h : ATK P ops r sl' σ Q) : ATK P ops (⟨dst, .convert src t x, ty, pos, after, none⟩ :: r) sl σ Q :=
  ATK_conv hx (by rw [show IntKind.i64.wrap n = n by rw [IntKind.wrap_i64]; omega]; exact hs) h
theorem TS_conv_u8 {src t : TypeId} {b : UInt8} (hx : aev sl x = bvA b) [T : TyInt P t .i64] [T0 : TyInt P src .u8] (hs : aput sl dst (.int .i64 (b.toNat : Int)) = sl') (h : ATK P ops r sl' σ Q) : ATK P ops (⟨dst, .convert src t x, ty, pos, after, none⟩ :: r) sl σ Q :=
  ATK_conv (k := .u8) (n := b.toNat) hx (by rw [show IntKind.i64.wrap (b.toNat : Int) = b.toNat by rw [IntKind.wrap_i64]; have := b.toNat_lt; omega]; exact hs) h
theorem TS_conv_byte {src t : TypeId} {n : Int} {k : IntKind} (hx : aev sl x = .int k n) [T : TyInt P t .u8] [T0 : TyInt P src k] (hs : aput sl dst (bvA (UInt8.ofNat (n % 256).toNat)) = sl') (h : ATK P ops r sl' σ Q) : ATK P ops (⟨dst, .convert src t x, ty, pos, after, none⟩ :: r) sl σ Q :=
  ATK_conv hx (by rw [wrap_u8]; exact hs) h
theorem TS_xor8 {ops : Array Oper} {r : List Oper} {t t' : TypeId} {a b : UInt8} (hx : aev sl x = bvA a) (hy : aev sl y = bvA b) (hs : aput sl dst (bvA (a ^^^ b)) = sl') (h : ATK P ops r sl' σ Q) : ATK P ops (⟨dst, .binOp .xor t x y t', ty, pos, after, none⟩ :: r) sl σ Q :=
  ATK_bin (k := .u8) (m := a.toNat) (n := b.toNat) hx hy (by simp only [abin, bits_xor8]; rfl) hs h
theorem TS_eq8 {ops : Array Oper} {r : List Oper} {t t' : TypeId} {a b : UInt8} (hx : aev sl x = bvA a) (hy : aev sl y = bvA b) (hs : aput sl dst (.bool (a == b)) = sl') (h : ATK P ops r sl' σ Q) : ATK P ops (⟨dst, .binOp .eql t x y t', ty, pos, after, none⟩ :: r) sl σ Q :=
  ATK_bin (k := .u8) (m := a.toNat) (n := b.toNat) hx hy (by
    simp only [abin]
    congr 2
    rw [Bool.eq_iff_iff, beq_iff_eq, beq_iff_eq]
    constructor
    · intro h; exact UInt8.toNat_inj.1 (by omega)
    · rintro rfl; rfl) hs h
theorem TS_ne8 {ops : Array Oper} {r : List Oper} {t t' : TypeId} {a b : UInt8} (hx : aev sl x = bvA a) (hy : aev sl y = bvA b) (hs : aput sl dst (.bool (a != b)) = sl') (h : ATK P ops r sl' σ Q) : ATK P ops (⟨dst, .binOp .neq t x y t', ty, pos, after, none⟩ :: r) sl σ Q :=
  ATK_bin (k := .u8) (m := a.toNat) (n := b.toNat) hx hy (by
    simp only [abin]
    congr 2
    rw [Bool.eq_iff_iff, bne_iff_ne, bne_iff_ne]
    constructor
    · rintro h rfl; exact h rfl
    · intro h h2; exact h (UInt8.toNat_inj.1 (by omega))) hs h
theorem TS_indexAddr {ops : Array Oper} {r : List Oper} {t e : TypeId} {sz by_ : Nat} {own : AOwn} {cells : List AV} {n j off : Nat} {k : IntKind} {i : Int} (hx : aev sl x = .sl own cells n) (hy : aev sl y = .int k i) [T : TySl P t e sz by_] (hj : i = (j : Int)) (hi : j < n) (ho : j * sz = off) (hs : aput sl dst (.epr cells off) = sl') (h : ATK P ops r sl' σ Q) : ATK P ops (⟨dst, .indexAddr t x y, ty, pos, after, none⟩ :: r) sl σ Q := by
  subst hj ho
  exact ATK_indexAddr hx hy (by omega) (by simpa using hs) h
theorem TS_load_byte {ops : Array Oper} {r : List Oper} {t : TypeId} {off : Nat} {l : List UInt8} (hx : aev sl x = .epr (l.map bvA) off) [T : TyVar P t false 1] (hlt : off < l.length) (hs : aput sl dst (bvA (l.getD off 0)) = sl') (h : ATK P ops r sl' σ Q) : ATK P ops (⟨dst, .load t x, ty, pos, after, none⟩ :: r) sl σ Q :=
  TS_load_epr hx (by simp [hlt]) hs h
theorem TS_inc8 {ops : Array Oper} {r : List Oper} {t t' : TypeId} {a : UInt8} (hx : aev sl x = bvA a) (hy : aev sl y = .int .u8 1) (hs : aput sl dst (bvA (a + 1)) = sl') (h : ATK P ops r sl' σ Q) : ATK P ops (⟨dst, .binOp .add t x y t', ty, pos, after, none⟩ :: r) sl σ Q :=
  ATK_bin (k := .u8) (m := a.toNat) (n := 1) hx hy (by
    have ha := a.toNat_lt
    have e : ((a + 1 : UInt8).toNat : Int) = ((a.toNat : Int) + 1) % 256 := by rw [UInt8.toNat_add]; rfl
    show some (AV.int .u8 (IntKind.u8.wrap ((a.toNat : Int) + 1))) = some (AV.int .u8 ((a + 1 : UInt8).toNat : Int))
    rw [e, IntKind.wrap_u8]) hs h
theorem TS_mul {ops : Array Oper} {r : List Oper} {t t' : TypeId} {m n : Int} (hx : aev sl x = .int .i64 m) (hy : aev sl y = .int .i64 n) (hb : -9223372036854775808 ≤ m * n ∧ m * n ≤ 9223372036854775807) (hs : aput sl dst (.int .i64 (m * n)) = sl') (h : ATK P ops r sl' σ Q) : ATK P ops (⟨dst, .binOp .mul t x y t', ty, pos, after, none⟩ :: r) sl σ Q :=
  ATK_bin hx hy (by simp only [abin]; rw [IntKind.wrap_i64]; congr 2; omega) hs h
theorem TS_slice8_h {ops : Array Oper} {r : List Oper} {t e : TypeId} {by_ : Nat} {own : AOwn} {l : List UInt8} {n m : Nat} {k' : IntKind} {j : Int} (hx : aev sl x = .sl own (l.map bvA) n) [T : TySl P t e 1 by_] (hz : aev sl z = .int k' j) (hh : j = (m : Int)) (hlm : m ≤ n) (hs : aput sl dst (.sl .none ((l.take m).map bvA) m) = sl') (h : ATK P ops r sl' σ Q) : ATK P ops (⟨dst, .slice t x none (some z) none, ty, pos, after, none⟩ :: r) sl σ Q :=
  ATK_slice_h hx hz hh hlm (by rw [Nat.mul_one, ← List.map_take]; exact hs) h
theorem TS_slice8_lh {ops : Array Oper} {r : List Oper} {t e : TypeId} {by_ : Nat} {own : AOwn} {l : List UInt8} {n i m : Nat} {k k' : IntKind} {i' j : Int} (hx : aev sl x = .sl own (l.map bvA) n) [T : TySl P t e 1 by_] (hy : aev sl y = .int k i') (hz : aev sl z = .int k' j) (hl : i' = (i : Int)) (hh : j = (m : Int)) (hlm : i ≤ m ∧ m ≤ n) (hs : aput sl dst (.sl .none (((l.drop i).take (m - i)).map bvA) (m - i)) = sl') (h : ATK P ops r sl' σ Q) : ATK P ops (⟨dst, .slice t x (some y) (some z) none, ty, pos, after, none⟩ :: r) sl σ Q :=
  ATK_slice_lh hx hy hz hl hh hlm (by rw [Nat.mul_one, Nat.mul_one, ← List.map_drop, ← List.map_take]; exact hs) h
theorem TS_slice8_l {ops : Array Oper} {r : List Oper} {t e : TypeId} {by_ : Nat} {own : AOwn} {l : List UInt8} {n i : Nat} {k : IntKind} {i' : Int} (hx : aev sl x = .sl own (l.map bvA) n) [T : TySl P t e 1 by_] (hy : aev sl y = .int k i') (hl : i' = (i : Int)) (hlm : i ≤ n) (hs : aput sl dst (.sl .none (((l.drop i).take (n - i)).map bvA) (n - i)) = sl') (h : ATK P ops r sl' σ Q) : ATK P ops (⟨dst, .slice t x (some y) none none, ty, pos, after, none⟩ :: r) sl σ Q :=
  ATK_slice_l hx hy hl hlm (by rw [Nat.mul_one, Nat.mul_one, ← List.map_drop, ← List.map_take]; exact hs) h
theorem TS_min {ops : Array Oper} {r : List Oper} {t t' : TypeId} {k : IntKind} {m n : Int} (hx : aev sl x = .int k m) (hy : aev sl y = .int k n) (hs : aput sl dst (.int k (min m n)) = sl') (h : ATK P ops r sl' σ Q) : ATK P ops (⟨dst, .call { callee := .builtin .min, args := #[x, y], argTypes := #[t, t'] }, ty, pos, after, none⟩ :: r) sl σ Q :=
  ATK_pure (av := .int k (min m n)) rfl (fun M a w hr => by
    have h1 := ev1 hr hx
    have h2 := ev1 hr hy
    unfold Reps at h1 h2
    refine ⟨.int k (min m n), fun w' _ => ?_, Reps_int⟩
    by_cases hlt : n < m
    · rw [show min m n = n by omega]
      simp [execOp, h1, h2, resolve, invoke, builtin, Builtin.min_, Builtin.min2, hlt]
    · rw [show min m n = m by omega]
      simp [execOp, h1, h2, resolve, invoke, builtin, Builtin.min_, Builtin.min2, hlt]) hs h
theorem TS_max {ops : Array Oper} {r : List Oper} {t t' : TypeId} {k : IntKind} {m n : Int} (hx : aev sl x = .int k m) (hy : aev sl y = .int k n) (hs : aput sl dst (.int k (max m n)) = sl') (h : ATK P ops r sl' σ Q) : ATK P ops (⟨dst, .call { callee := .builtin .max, args := #[x, y], argTypes := #[t, t'] }, ty, pos, after, none⟩ :: r) sl σ Q :=
  ATK_pure (av := .int k (max m n)) rfl (fun M a w hr => by
    have h1 := ev1 hr hx
    have h2 := ev1 hr hy
    unfold Reps at h1 h2
    refine ⟨.int k (max m n), fun w' _ => ?_, Reps_int⟩
    by_cases hlt : n > m
    · rw [show max m n = n by omega]
      simp [execOp, h1, h2, resolve, invoke, builtin, Builtin.max_, Builtin.max2, hlt]
    · rw [show max m n = m by omega]
      simp [execOp, h1, h2, resolve, invoke, builtin, Builtin.max_, Builtin.max2, hlt]) hs h
theorem TS_len_isB {ops : Array Oper} {r : List Oper} {t : TypeId} {a : AV} {l : List UInt8} (hx : aev sl x = a) (hb : IsB a l) {e : TypeId} {sz by_ : Nat} [T : TySl P t e sz by_] (hs : aput sl dst (.int .i64 l.length) = sl') (h : ATK P ops r sl' σ Q) : ATK P ops (⟨dst, .call { callee := .builtin .len, args := #[x], argTypes := #[t] }, ty, pos, after, none⟩ :: r) sl σ Q := by
  rcases hb with ⟨rfl, rfl⟩ | ⟨own, rfl⟩
  · exact ATK_len_nils hx hs h
  · exact ATK_len_sl hx hs h
theorem TS_string_isB {ops : Array Oper} {r : List Oper} {src t e : TypeId} {by_ : Nat} {a : AV} {l : List UInt8} (hx : aev sl x = a) (hb : IsB a l) [T : TySl P src e 1 by_] [B : TyInt P e .u8] [S : TyStr P t] (hs : aput sl dst (.str l) = sl') (h : ATK P ops r sl' σ Q) : ATK P ops (⟨dst, .convert src t x, ty, pos, after, none⟩ :: r) sl σ Q := by
  rcases hb with ⟨rfl, rfl⟩ | ⟨own, rfl⟩
  · exact ATK_string_nils hx hs h
  · exact ATK_string hx rfl rfl hs h
theorem TS_indexAddr_isB {ops : Array Oper} {r : List Oper} {t e : TypeId} {by_ : Nat} {a : AV} {l : List UInt8} {j : Nat} {k : IntKind} {i : Int} (hx : aev sl x = a) (hb : IsB a l) (hy : aev sl y = .int k i) [T : TySl P t e 1 by_] (hj : i = (j : Int)) (hi : j < l.length) (hs : aput sl dst (.epr (l.map bvA) j) = sl') (h : ATK P ops r sl' σ Q) : ATK P ops (⟨dst, .indexAddr t x y, ty, pos, after, none⟩ :: r) sl σ Q := by
  rcases hb with ⟨rfl, rfl⟩ | ⟨own, rfl⟩
  · simp at hi
  · exact TS_indexAddr hx hy hj hi (by simp) hs h
end Go.Proofs.Ytnjkklkjlloedaa
