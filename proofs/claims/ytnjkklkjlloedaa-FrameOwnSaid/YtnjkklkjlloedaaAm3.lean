/- The abstract machine: regions, tests, operations on numbers, texts and slices that turn no memory. -/
import Derived.Test.YtnjkklkjlloedaaAm2
namespace Go.Proofs.Ytnjkklkjlloedaa
open Go.RowKit
set_option linter.unusedVariables false
set_option linter.unusedSimpArgs false

variable {base : Nat} {Fi : Int → Prop} {M M' M'' : MM} {w w' w'' : World}
variable {P : Program} {ops : Array Oper} {r : List Oper} {sl sl' : List AV} {σ σ' : ASt} {Q : Exit → List AV → ASt → Prop}
variable {d : Tmp} {dst : Option Tmp} {ty : TypeId} {pos : String} {after : Array Edge} {x y z : Operand} {gd : Option (Nat × Bool)} {op : Op}

theorem AWP_cond {c : Operand} {b : Bool} {u v : Code} (hc : aev sl c = .bool b) (h : AWP P (if b = true then u else v) sl σ Q) : AWP P (.cond c u v) sl σ Q := by
  intro base Fi M0 w0 M a w hs hr
  have hv := aev_reps hr.2.1 c
  rw [hc] at hv
  unfold Reps at hv
  exact wp_cond hv (h base Fi M0 w0 M a w hs hr)
theorem AWP_cond_t {c : Operand} {b : Bool} {u v : Code} (hc : aev sl c = .bool b) (hb : b = true) (h : AWP P u sl σ Q) : AWP P (.cond c u v) sl σ Q := AWP_cond hc (by rw [if_pos hb]; exact h)
theorem AWP_cond_f {c : Operand} {b : Bool} {u v : Code} (hc : aev sl c = .bool b) (hb : b = false) (h : AWP P v sl σ Q) : AWP P (.cond c u v) sl σ Q := AWP_cond hc (by rw [if_neg (by simp [hb])]; exact h)
theorem AWP_cond_s {c : Operand} {b : Bool} {u v : Code} (hc : aev sl c = .bool b) (h1 : b = true → AWP P u sl σ Q) (h2 : b = false → AWP P v sl σ Q) : AWP P (.cond c u v) sl σ Q := by
  cases b
  · exact AWP_cond_f hc rfl (h2 rfl)
  · exact AWP_cond_t hc rfl (h1 rfl)
theorem AWP_region {id : Nat} {l : List Oper} (h : AOPS P l.toArray l sl σ Q) : AWP P (.region id l.toArray false) sl σ Q := fun base Fi M0 w0 M a w hs hr => wp_region_lit (h base Fi M0 w0 M a w hs hr)
theorem AOPS_nil (h : Q .normal sl σ) : AOPS P ops [] sl σ Q := fun base Fi M0 w0 M a w hs hr => wpList_nil ⟨sl, σ, M, h, hr, hs⟩

/-- What the abstract machine sees of a guard. -/
def ayield (ops : Array Oper) (sl : List AV) (j : Nat) : Option Bool :=
  match ((ops[j]?).bind (·.dst)).map (fun d => sl.getD d .any) with
  | some (.bool b) => some b
  | _ => none
theorem ayield_ok {a : Act} (h : RepsL M w sl a.tmps.toList) {j : Nat} {b : Bool} (hy : ayield ops sl j = some b) : yielded ops a.tmps j = some b := by
  unfold ayield at hy
  cases hd : (ops[j]?).bind (·.dst) with
  | none => rw [hd] at hy; simp at hy
  | some d =>
    rw [hd] at hy
    simp only [Option.map_some] at hy
    have hr := aev_reps (w := w) h (.tmp d)
    simp only [aev] at hr
    split at hy
    · rename_i b' hb
      cases hy
      simp only [Option.some.injEq] at hb
      rw [hb] at hr
      unfold Reps at hr
      have h3 : a.tmps.getD d undef = .bool b := hr
      have h4 : a.tmps[d]? = some (.bool b) := by
        rw [Array.getD_eq_getD_getElem?] at h3
        cases hx : a.tmps[d]? with
        | none => rw [hx] at h3; simp [undef] at h3
        | some v => rw [hx] at h3; simpa using h3
      simp only [yielded, hd, Option.bind_some, h4]
    · cases hy
theorem AOPS_guard_no {j : Nat} {want b : Bool} (hy : ayield ops sl j = some b) (hb : b = !want) (hs : aput sl dst .und = sl') (h : AOPS P ops r sl' σ Q) : AOPS P ops (⟨dst, op, ty, pos, after, some (j, want)⟩ :: r) sl σ Q := by
  intro base Fi M0 w0 M a w hst hr
  refine wpList_step fun K hK => ?_
  have hy' := ayield_ok hr.2.1 hy
  have : Region.wanted ⟨dst, op, ty, pos, after, some (j, want)⟩ (yielded ops a.tmps) = false := by
    simp only [Region.wanted, hy', hb]; cases want <;> rfl
  rw [if_neg (by simp [this])]
  refine hK _ _ (h base Fi M0 w0 M _ w hst ⟨?_, ?_, hr.2.2⟩)
  · cases dst <;> exact hr.1
  · rw [← hs]; exact aput_reps hr.2.1 dst (by unfold Reps; rfl)
/-- A guard that is itself passed over. -/
theorem AOPS_guard_und {j : Nat} {want : Bool} (hy : ((ops[j]?).bind (·.dst)).map (fun d => sl.getD d .any) = some .und) (hs : aput sl dst .und = sl') (h : AOPS P ops r sl' σ Q) : AOPS P ops (⟨dst, op, ty, pos, after, some (j, want)⟩ :: r) sl σ Q := by
  intro base Fi M0 w0 M a w hst hr
  refine wpList_step fun K hK => ?_
  have hu : yielded ops a.tmps j = none := by
    cases hd : (ops[j]?).bind (·.dst) with
    | none => simp [yielded, hd]
    | some d =>
      rw [hd] at hy
      simp only [Option.map_some, Option.some.injEq] at hy
      have h1 := aev_reps (w := w) hr.2.1 (.tmp d)
      simp only [aev, hy] at h1
      unfold Reps at h1
      have h3 : a.tmps.getD d undef = undef := h1
      simp only [yielded, hd, Option.bind_some]
      rw [Array.getD_eq_getD_getElem?] at h3
      cases hx : a.tmps[d]? with
      | none => rfl
      | some v => rw [hx] at h3; simp only [Option.getD_some] at h3; subst h3; rfl
  have : Region.wanted ⟨dst, op, ty, pos, after, some (j, want)⟩ (yielded ops a.tmps) = false := by
    simp only [Region.wanted, hu]; rfl
  rw [if_neg (by simp [this])]
  refine hK _ _ (h base Fi M0 w0 M _ w hst ⟨?_, ?_, hr.2.2⟩)
  · cases dst <;> exact hr.1
  · rw [← hs]; exact aput_reps hr.2.1 dst (by unfold Reps; rfl)
theorem AOPS_guard_yes {j : Nat} {want b : Bool} (hy : ayield ops sl j = some b) (hb : b = want) (h : AOPS P ops (⟨dst, op, ty, pos, after, none⟩ :: r) sl σ Q) : AOPS P ops (⟨dst, op, ty, pos, after, some (j, want)⟩ :: r) sl σ Q := by
  intro base Fi M0 w0 M a w hst hr
  have h' := h base Fi M0 w0 M a w hst hr
  have hy' := ayield_ok hr.2.1 hy
  unfold wpList at h' ⊢
  have e1 : Region.wanted ⟨dst, op, ty, pos, after, some (j, want)⟩ (yielded ops a.tmps) = true := by simp only [Region.wanted, hy', hb]; simp
  rw [if_pos (by simp [Region.wanted])] at h'
  rw [if_pos e1]
  exact h'

/-! ### Operations that turn no memory -/
/-- Behind some steps. -/
def Later (M : MM) (w w' : World) : Prop := ∃ base Fi M', Stp base Fi M w M' w'
theorem Later.refl (M : MM) (w : World) : Later M w w := ⟨0, fun _ => False, M, Stp.refl _ _ _ _⟩
/-- An operation that turns nothing, and yields the same later on. -/
def ARun (P : Program) (o : Oper) (sl : List AV) (av : AV) : Prop := ∀ (M : MM) (a : Act) (w : World), RepsL M w sl a.tmps.toList → ∃ v, (∀ w', Later M w w' → (execOp a.eval o).run P w' = .ok (.value v) w') ∧ Reps M w av v
theorem AOPS_pure {o : Oper} {av : AV} (hg : o.guard = none) (ho : ARun P o sl av) (hs : aput sl o.dst av = sl') (h : AOPS P ops r sl' σ Q) : AOPS P ops (o :: r) sl σ Q := by
  intro base Fi M0 w0 M a w hst hr
  refine wpList_plain hg fun K hK => ?_
  obtain ⟨v, hrun, hv⟩ := ho M a w hr.2.1
  unfold Oper.wp
  rw [hrun w (Later.refl M w)]
  refine hK _ _ (h base Fi M0 w0 M _ w hst ⟨?_, ?_, hr.2.2⟩)
  · cases o.dst <;> exact hr.1
  · rw [← hs]; exact aput_reps hr.2.1 o.dst hv
theorem AOPS_move {av : AV} (hx : aev sl x = av) (hs : aput sl dst av = sl') (h : AOPS P ops r sl' σ Q) : AOPS P ops (⟨dst, .move x, ty, pos, after, none⟩ :: r) sl σ Q :=
  AOPS_pure rfl (fun M a w hr => ⟨_, fun _ _ => rfl, hx ▸ aev_reps hr x⟩) hs h
theorem AOPS_assign {av : AV} (hx : aev sl x = av) (hs : aput sl dst av = sl') (h : AOPS P ops r sl' σ Q) : AOPS P ops (⟨dst, .assign x, ty, pos, after, none⟩ :: r) sl σ Q :=
  AOPS_pure rfl (fun M a w hr => ⟨_, fun _ _ => rfl, hx ▸ aev_reps hr x⟩) hs h
theorem AOPS_pick_t {c : Operand} {b : Bool} {av : AV} (hc : aev sl c = .bool b) (hb : b = true) (hx : aev sl x = av) (hs : aput sl dst av = sl') (h : AOPS P ops r sl' σ Q) : AOPS P ops (⟨dst, .pick c x y, ty, pos, after, none⟩ :: r) sl σ Q :=
  AOPS_pure rfl (fun M a w hr => by
    have h1 := aev_reps hr c
    rw [hc, hb] at h1; unfold Reps at h1
    exact ⟨_, fun _ _ => by simp [execOp, h1, asBool], hx ▸ aev_reps hr x⟩) hs h
theorem AOPS_pick_f {c : Operand} {b : Bool} {av : AV} (hc : aev sl c = .bool b) (hb : b = false) (hx : aev sl y = av) (hs : aput sl dst av = sl') (h : AOPS P ops r sl' σ Q) : AOPS P ops (⟨dst, .pick c x y, ty, pos, after, none⟩ :: r) sl σ Q :=
  AOPS_pure rfl (fun M a w hr => by
    have h1 := aev_reps hr c
    rw [hc, hb] at h1; unfold Reps at h1
    exact ⟨_, fun _ _ => by simp [execOp, h1, asBool], hx ▸ aev_reps hr y⟩) hs h
theorem AOPS_not {b : Bool} (hx : aev sl x = .bool b) (hs : aput sl dst (.bool (!b)) = sl') (h : AOPS P ops r sl' σ Q) {t : TypeId} : AOPS P ops (⟨dst, .unOp .not t x, ty, pos, after, none⟩ :: r) sl σ Q :=
  AOPS_pure (av := .bool (!b)) rfl (fun M a w hr => by
    have h1 := aev_reps hr x
    rw [hx] at h1; unfold Reps at h1
    exact ⟨.bool (!b), fun w' _ => by simp [execOp, h1, Op.unary], by unfold Reps; rfl⟩) hs h
/-- What an operation on two numbers yields. -/
def abin (op : BinOp) (k : IntKind) (m n : Int) : Option AV :=
  match op with
  | .add => some (.int k (k.wrap (m + n)))
  | .sub => some (.int k (k.wrap (m - n)))
  | .mul => some (.int k (k.wrap (m * n)))
  | .quo => if n = 0 then none else some (.int k (k.wrap (m.tdiv n)))
  | .rem => if n = 0 then none else some (.int k (m.tmod n))
  | .and => some (.int k (bits .and k m n))
  | .or => some (.int k (bits .or k m n))
  | .xor => some (.int k (bits .xor k m n))
  | .eql => some (.bool (m == n))
  | .neq => some (.bool (m != n))
  | .lss => some (.bool (decide (m < n)))
  | .leq => some (.bool (decide (m ≤ n)))
  | .gtr => some (.bool (decide (m > n)))
  | .geq => some (.bool (decide (m ≥ n)))
  | _ => none
theorem Reps_int {k : IntKind} {n : Int} : Reps M w (.int k n) (.int k n) := by unfold Reps; rfl
theorem Reps_bool {b : Bool} : Reps M w (.bool b) (.bool b) := by unfold Reps; rfl
theorem abin_ok {op : BinOp} {k : IntKind} {m n : Int} {av : AV} (h : abin op k m n = some av) (t : TypeId) (M : MM) (w : World) : ∃ v, (∀ w', (binOp op t (.int k m) (.int k n)).run P w' = .ok v w') ∧ Reps M w av v := by
  cases op <;> simp only [abin] at h <;> first
    | (cases h; done)
    | (cases h; first | (refine ⟨_, fun w' => ?_, Reps_int⟩; simp [binOp, Op.intArith]; done) | (refine ⟨_, fun w' => ?_, Reps_int⟩; simp [binOp]; rfl) | (refine ⟨_, fun w' => ?_, Reps_bool⟩; simp [binOp, Op.intCmp]; done))
    | (split at h
       · cases h
       · rename_i hn
         cases h; exact ⟨_, fun w' => by simp [binOp, Op.intDiv, hn], Reps_int⟩)
theorem eqGuard_int (op : BinOp) (t : TypeId) (k : IntKind) (n : Int) (v : Value) : eqGuard op t x y (.int k n) v = pure () := by cases op <;> rfl
theorem eqGuard_bool (op : BinOp) (t : TypeId) (b : Bool) (v : Value) : eqGuard op t x y (.bool b) v = pure () := by cases op <;> rfl
theorem AOPS_bin {op : BinOp} {t t' : TypeId} {k : IntKind} {m n : Int} {av : AV} (hx : aev sl x = .int k m) (hy : aev sl y = .int k n) (ho : abin op k m n = some av) (hs : aput sl dst av = sl') (h : AOPS P ops r sl' σ Q) : AOPS P ops (⟨dst, .binOp op t x y t', ty, pos, after, none⟩ :: r) sl σ Q :=
  AOPS_pure (av := av) rfl (fun M a w hr => by
    have h1 := aev_reps hr x
    have h2 := aev_reps hr y
    rw [hx] at h1; rw [hy] at h2; unfold Reps at h1 h2
    obtain ⟨v, h3, h4⟩ := abin_ok (P := P) ho t M w
    exact ⟨v, fun w' _ => by simp [execOp, h1, h2, h3, eqGuard_int], h4⟩) hs h
theorem AOPS_shr {t t' : TypeId} {k k' : IntKind} {m n : Int} (hx : aev sl x = .int k m) (hy : aev sl y = .int k' n) (h0 : 0 ≤ n ∧ n ≤ k.bits) (hs : aput sl dst (.int k (m / 2 ^ n.toNat)) = sl') (h : AOPS P ops r sl' σ Q) : AOPS P ops (⟨dst, .binOp .shr t x y t', ty, pos, after, none⟩ :: r) sl σ Q :=
  AOPS_pure (av := .int k (m / 2 ^ n.toNat)) rfl (fun M a w hr => by
    have h1 := aev_reps hr x
    have h2 := aev_reps hr y
    rw [hx] at h1; rw [hy] at h2; unfold Reps at h1 h2
    exact ⟨.int k (m / 2 ^ n.toNat), fun w' _ => by simp [execOp, h1, h2, binOp, eqGuard_int, shift_shr k k' m n h0.1 h0.2], by unfold Reps; rfl⟩) hs h
theorem AOPS_shl {t t' : TypeId} {k k' : IntKind} {m n : Int} (hx : aev sl x = .int k m) (hy : aev sl y = .int k' n) (h0 : 0 ≤ n ∧ n ≤ k.bits) (hs : aput sl dst (.int k (k.wrap (m * 2 ^ n.toNat))) = sl') (h : AOPS P ops r sl' σ Q) : AOPS P ops (⟨dst, .binOp .shl t x y t', ty, pos, after, none⟩ :: r) sl σ Q :=
  AOPS_pure (av := .int k (k.wrap (m * 2 ^ n.toNat))) rfl (fun M a w hr => by
    have h1 := aev_reps hr x
    have h2 := aev_reps hr y
    rw [hx] at h1; rw [hy] at h2; unfold Reps at h1 h2
    exact ⟨.int k (k.wrap (m * 2 ^ n.toNat)), fun w' _ => by simp [execOp, h1, h2, binOp, eqGuard_int, shift_shl k k' m n h0.1 h0.2], by unfold Reps; rfl⟩) hs h
theorem AOPS_conv {src t : TypeId} {k k' : IntKind} {n : Int} (hx : aev sl x = .int k n) [T : TyInt P t k'] [T0 : TyInt P src k] (hs : aput sl dst (.int k' (k'.wrap n)) = sl') (h : AOPS P ops r sl' σ Q) : AOPS P ops (⟨dst, .convert src t x, ty, pos, after, none⟩ :: r) sl σ Q :=
  AOPS_pure (av := .int k' (k'.wrap n)) rfl (fun M a w hr => by
    have h1 := aev_reps hr x
    rw [hx] at h1; unfold Reps at h1
    exact ⟨.int k' (k'.wrap n), fun w' _ => by simp [execOp, h1, convert, run_underlying T.und, run_underlying T0.und, Conv.intToInt], by unfold Reps; rfl⟩) hs h
theorem binOp_eql_bool (t : TypeId) (b c : Bool) : binOp .eql t (.bool b) (.bool c) = (do pure (.bool (← Op.equal t (.bool b) (.bool c)))) := rfl
theorem binOp_neq_bool (t : TypeId) (b c : Bool) : binOp .neq t (.bool b) (.bool c) = (do pure (.bool (!(← Op.equal t (.bool b) (.bool c))))) := rfl
theorem AOPS_beq {t t' : TypeId} {b c : Bool} (hx : aev sl x = .bool b) (hy : aev sl y = .bool c) [T : TyBool P t] (hs : aput sl dst (.bool (b == c)) = sl') (h : AOPS P ops r sl' σ Q) : AOPS P ops (⟨dst, .binOp .eql t x y t', ty, pos, after, none⟩ :: r) sl σ Q :=
  AOPS_pure (av := .bool (b == c)) rfl (fun M a w hr => by
    have h1 := aev_reps hr x
    have h2 := aev_reps hr y
    rw [hx] at h1; rw [hy] at h2; unfold Reps at h1 h2
    have h3 : ∀ w, (Op.equal t (.bool b) (.bool c)).run P w = .ok (b == c) w := fun w => run_equalIn_bool' w 9999 t b c T.und
    exact ⟨.bool (b == c), fun w' _ => by simp [execOp, h1, h2, binOp_eql_bool, eqGuard_bool, h3], Reps_bool⟩) hs h
theorem AOPS_bne {t t' : TypeId} {b c : Bool} (hx : aev sl x = .bool b) (hy : aev sl y = .bool c) [T : TyBool P t] (hs : aput sl dst (.bool (b != c)) = sl') (h : AOPS P ops r sl' σ Q) : AOPS P ops (⟨dst, .binOp .neq t x y t', ty, pos, after, none⟩ :: r) sl σ Q :=
  AOPS_pure (av := .bool (b != c)) rfl (fun M a w hr => by
    have h1 := aev_reps hr x
    have h2 := aev_reps hr y
    rw [hx] at h1; rw [hy] at h2; unfold Reps at h1 h2
    have h3 : ∀ w, (Op.equal t (.bool b) (.bool c)).run P w = .ok (b == c) w := fun w => run_equalIn_bool' w 9999 t b c T.und
    exact ⟨.bool (!(b == c)), fun w' _ => by simp [execOp, h1, h2, binOp_neq_bool, eqGuard_bool, h3], Reps_bool⟩) hs h
theorem ba_toList (l : List UInt8) : (⟨l.toArray⟩ : ByteArray).toList = l := by
  simp [ByteArray.toList_eq]
end Go.Proofs.Ytnjkklkjlloedaa
