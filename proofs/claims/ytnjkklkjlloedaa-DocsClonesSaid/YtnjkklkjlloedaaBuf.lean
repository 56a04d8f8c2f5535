/- The abstract machine: buffers that may be written. -/
import Derived.Test.YtnjkklkjlloedaaRun0
namespace Go.Proofs.Ytnjkklkjlloedaa
open Go.RowKit
set_option linter.unusedVariables false
set_option linter.unusedSimpArgs false
variable {base : Nat} {Fi : Int → Prop} {M : MM} {w w' : World}
variable {P : Program} {ops : Array Oper} {r : List Oper} {sl sl' : List AV} {σ σ' : ASt} {Q : Exit → List AV → ASt → Prop}
variable {dst : Option Tmp} {ty : TypeId} {pos : String} {after : Array Edge} {x y z : Operand} {objs : List (Int × List AV)} {toks : List (Int × Tq)} {next : Int}

theorem buf_inv {id : Int} {off n c : Nat} {v : Value} (h : Reps M w (.buf id off n c) v) : ∃ b, M.ob id = some b ∧ v = .slice (some ⟨b, off, none⟩) n c ∧ n ≤ c ∧ c ≤ maxLen := by unfold Reps at h; exact h
theorem AOPS_len_buf {t : TypeId} {id : Int} {off n c : Nat} (hx : aev sl x = .buf id off n c) {e : TypeId} {sz by_ : Nat} [T : TySl P t e sz by_] (hs : aput sl dst (.int .i64 n) = sl') (h : AOPS P ops r sl' σ Q) : AOPS P ops (⟨dst, .call { callee := .builtin .len, args := #[x], argTypes := #[t] }, ty, pos, after, none⟩ :: r) sl σ Q :=
  AOPS_pure (av := .int .i64 n) rfl (fun M a w hr => by
    obtain ⟨b, _, h1, _⟩ := buf_inv (ev1 hr hx)
    exact ⟨.int .i64 n, fun w' L => by simp [execOp, h1, resolve, invoke, builtin, Builtin.len_, run_underlying T.und, goInt], Reps_int⟩) hs h
theorem AOPS_cap_buf {t : TypeId} {id : Int} {off n c : Nat} (hx : aev sl x = .buf id off n c) {e : TypeId} {sz by_ : Nat} [T : TySl P t e sz by_] (hs : aput sl dst (.int .i64 c) = sl') (h : AOPS P ops r sl' σ Q) : AOPS P ops (⟨dst, .call { callee := .builtin .cap, args := #[x], argTypes := #[t] }, ty, pos, after, none⟩ :: r) sl σ Q :=
  AOPS_pure (av := .int .i64 c) rfl (fun M a w hr => by
    obtain ⟨b, _, h1, _⟩ := buf_inv (ev1 hr hx)
    exact ⟨.int .i64 c, fun w' L => by simp [execOp, h1, resolve, invoke, builtin, Builtin.cap_, run_underlying T.und, goInt], Reps_int⟩) hs h
theorem S_indexAddr_buf {t e : TypeId} {sz by_ : Nat} {id : Int} {off n c j o : Nat} {k : IntKind} {i : Int} (hx : aev sl x = .buf id off n c) (hy : aev sl y = .int k i) [T : TySl P t e sz by_] (hj : i = (j : Int)) (hi : j < n) (ho : off + j * sz = o) (hs : aput sl dst (.ptr id o) = sl') (h : AOPS P ops r sl' σ Q) : AOPS P ops (⟨dst, .indexAddr t x y, ty, pos, after, none⟩ :: r) sl σ Q :=
  AOPS_pure (av := .ptr id o) rfl (fun M a w hr => by
    obtain ⟨b, h0, h1, _⟩ := buf_inv (ev1 hr hx)
    have h2 := ev1 hr hy
    unfold Reps at h2
    have h8 := fun w => T.sizeOf w
    subst hj ho
    have hi' : (0 : Int) ≤ (j : Int) ∧ (j : Int) < (n : Int) := by omega
    exact ⟨.pointer (some ⟨b, off + j * sz, none⟩), fun w' L => by simp [execOp, h1, h2, Instr.indexAt, run_underlying T.und, asIntOf, hi, h8, addr_add], by unfold Reps; exact ⟨b, h0, rfl⟩⟩) hs h
theorem S_slice_buf_lh {t e : TypeId} {sz by_ : Nat} {id : Int} {off n c l m : Nat} {k k' : IntKind} {i j : Int} (hx : aev sl x = .buf id off n c) [T : TySl P t e sz by_] (hy : aev sl y = .int k i) (hz : aev sl z = .int k' j) (hl : i = (l : Int)) (hh : j = (m : Int)) (hlm : l ≤ m ∧ m ≤ c ∧ l < c) (hs : aput sl dst (.buf id (off + l * sz) (m - l) (c - l)) = sl') (h : AOPS P ops r sl' σ Q) : AOPS P ops (⟨dst, .slice t x (some y) (some z) none, ty, pos, after, none⟩ :: r) sl σ Q :=
  AOPS_pure (av := .buf id (off + l * sz) (m - l) (c - l)) rfl (fun M a w hr => by
    obtain ⟨b, h0, h1, g1, g2⟩ := buf_inv (ev1 hr hx)
    have h2 := ev1 hr hy
    have h3 := ev1 hr hz
    unfold Reps at h2 h3
    subst hl hh
    have h10 := fun w => T.sizeOf w
    have h11 : l ≤ m := hlm.1
    have h12 : m ≤ c := hlm.2.1
    have h13 : ¬ c = l := by omega
    exact ⟨.slice (some ⟨b, off + l * sz, none⟩) (m - l) (c - l), fun w' L => by simp [execOp, h1, h2, h3, Instr.sliceAt, Instr.slice, run_underlying T.und, Instr.sliceBounds, Instr.sliceBound, asIntOf, h11, h12, h10, h13, addr_add], by unfold Reps; exact ⟨b, h0, rfl, by omega, by omega⟩⟩) hs h
theorem S_slice_buf_h {t e : TypeId} {sz by_ : Nat} {id : Int} {off n c m : Nat} {k' : IntKind} {j : Int} (hx : aev sl x = .buf id off n c) [T : TySl P t e sz by_] (hz : aev sl z = .int k' j) (hh : j = (m : Int)) (hlm : m ≤ c) (hs : aput sl dst (.buf id off m c) = sl') (h : AOPS P ops r sl' σ Q) : AOPS P ops (⟨dst, .slice t x none (some z) none, ty, pos, after, none⟩ :: r) sl σ Q :=
  AOPS_pure (av := .buf id off m c) rfl (fun M a w hr => by
    obtain ⟨b, h0, h1, g1, g2⟩ := buf_inv (ev1 hr hx)
    have h3 := ev1 hr hz
    unfold Reps at h3
    subst hh
    have h10 := fun w => T.sizeOf w
    have h13 : ¬ c < m := by omega
    refine ⟨.slice (some ⟨b, off, none⟩) m c, fun w' L => ?_, by unfold Reps; exact ⟨b, h0, rfl, hlm, g2⟩⟩
    simp [execOp, h1, h3, Instr.sliceAt, Instr.slice, run_underlying T.und, Instr.sliceBounds, Instr.sliceBound, asIntOf, hlm, h10, h13, addr_add]) hs h
theorem S_slice_buf_l {t e : TypeId} {sz by_ : Nat} {id : Int} {off n c l : Nat} {k : IntKind} {i : Int} (hx : aev sl x = .buf id off n c) [T : TySl P t e sz by_] (hy : aev sl y = .int k i) (hl : i = (l : Int)) (hlm : l ≤ n ∧ l < c) (hs : aput sl dst (.buf id (off + l * sz) (n - l) (c - l)) = sl') (h : AOPS P ops r sl' σ Q) : AOPS P ops (⟨dst, .slice t x (some y) none none, ty, pos, after, none⟩ :: r) sl σ Q :=
  AOPS_pure (av := .buf id (off + l * sz) (n - l) (c - l)) rfl (fun M a w hr => by
    obtain ⟨b, h0, h1, g1, g2⟩ := buf_inv (ev1 hr hx)
    have h2 := ev1 hr hy
    unfold Reps at h2
    subst hl
    have h10 := fun w => T.sizeOf w
    have h11 : l ≤ n := hlm.1
    have h13 : ¬ c = l := by omega
    have h14 : ¬ n < l := by omega
    exact ⟨.slice (some ⟨b, off + l * sz, none⟩) (n - l) (c - l), fun w' L => by simp [execOp, h1, h2, Instr.sliceAt, Instr.slice, run_underlying T.und, Instr.sliceBounds, Instr.sliceBound, asIntOf, h11, h14, h10, h13, addr_add], by unfold Reps; exact ⟨b, h0, rfl, by omega, by omega⟩⟩) hs h
/-- At the room's end nothing is left. -/
theorem S_slice_buf_l0 {t e : TypeId} {sz by_ : Nat} {id : Int} {off n c l : Nat} {k : IntKind} {i : Int} (hx : aev sl x = .buf id off n c) [T : TySl P t e sz by_] (hy : aev sl y = .int k i) (hl : i = (l : Int)) (hlm : l = n ∧ l = c) (hs : aput sl dst (.sl .full [] 0) = sl') (h : AOPS P ops r sl' σ Q) : AOPS P ops (⟨dst, .slice t x (some y) none none, ty, pos, after, none⟩ :: r) sl σ Q :=
  AOPS_pure (av := .sl .full [] 0) rfl (fun M a w hr => by
    obtain ⟨b, h0, h1, g1, g2⟩ := buf_inv (ev1 hr hx)
    have h2 := ev1 hr hy
    unfold Reps at h2
    obtain ⟨rfl, rfl⟩ := hlm
    subst hl
    have h10 := fun w => T.sizeOf w
    refine ⟨.slice (some ⟨b, off, none⟩) 0 0, fun w' L => by simp [execOp, h1, h2, Instr.sliceAt, Instr.slice, run_underlying T.und, Instr.sliceBounds, Instr.sliceBound, asIntOf, h10, addr_add], ?_⟩
    unfold Reps
    exact ⟨_, 0, [], rfl, Nat.le_refl _, Nat.zero_le _, fun _ => rfl, .inl rfl, RepsL.nil, fun _ => rfl, rfl⟩) hs h
/-- x[l:m:c'], of which nothing is asked but that it is there. -/
theorem S_slice_buf_lhm {t e : TypeId} {sz by_ : Nat} {id : Int} {off n c l m q : Nat} {k k' k'' : IntKind} {i j p : Int} {u : Operand} (hx : aev sl x = .buf id off n c) [T : TySl P t e sz by_] (hy : aev sl y = .int k i) (hz : aev sl z = .int k' j) (hu : aev sl u = .int k'' p) (hl : i = (l : Int)) (hh : j = (m : Int)) (hq : p = (q : Int)) (hlm : l ≤ m ∧ m ≤ q ∧ q ≤ c) (hs : aput sl dst .any = sl') (h : AOPS P ops r sl' σ Q) : AOPS P ops (⟨dst, .slice t x (some y) (some z) (some u), ty, pos, after, none⟩ :: r) sl σ Q :=
  AOPS_pure (av := .any) rfl (fun M a w hr => by
    obtain ⟨b, h0, h1, g1, g2⟩ := buf_inv (ev1 hr hx)
    have h2 := ev1 hr hy
    have h3 := ev1 hr hz
    have h4 := ev1 hr hu
    unfold Reps at h2 h3 h4
    subst hl hh hq
    have h10 := fun w => T.sizeOf w
    have h11 : l ≤ m := hlm.1
    have h12 : m ≤ q := hlm.2.1
    have h13 : q ≤ c := hlm.2.2
    exact ⟨_, fun w' L => by simp [execOp, h1, h2, h3, h4, Instr.sliceAt, Instr.slice, run_underlying T.und, Instr.sliceBounds, Instr.sliceBound, asIntOf, h11, h12, h13, h10]; rfl, by unfold Reps; trivial⟩) hs h
theorem ATK_len_buf {t : TypeId} {id : Int} {off n c : Nat} (hx : aev sl x = .buf id off n c) {e : TypeId} {sz by_ : Nat} [T : TySl P t e sz by_] (hs : aput sl dst (.int .i64 n) = sl') (h : ATK P ops r sl' σ Q) : ATK P ops (⟨dst, .call { callee := .builtin .len, args := #[x], argTypes := #[t] }, ty, pos, after, none⟩ :: r) sl σ Q :=
  ATK_pure (av := .int .i64 n) rfl (fun M a w hr => by
    obtain ⟨b, _, h1, _⟩ := buf_inv (ev1 hr hx)
    exact ⟨.int .i64 n, fun w' L => by simp [execOp, h1, resolve, invoke, builtin, Builtin.len_, run_underlying T.und, goInt], Reps_int⟩) hs h
theorem ATK_cap_buf {t : TypeId} {id : Int} {off n c : Nat} (hx : aev sl x = .buf id off n c) {e : TypeId} {sz by_ : Nat} [T : TySl P t e sz by_] (hs : aput sl dst (.int .i64 c) = sl') (h : ATK P ops r sl' σ Q) : ATK P ops (⟨dst, .call { callee := .builtin .cap, args := #[x], argTypes := #[t] }, ty, pos, after, none⟩ :: r) sl σ Q :=
  ATK_pure (av := .int .i64 c) rfl (fun M a w hr => by
    obtain ⟨b, _, h1, _⟩ := buf_inv (ev1 hr hx)
    exact ⟨.int .i64 c, fun w' L => by simp [execOp, h1, resolve, invoke, builtin, Builtin.cap_, run_underlying T.und, goInt], Reps_int⟩) hs h
theorem TS_indexAddr_buf {t e : TypeId} {sz by_ : Nat} {id : Int} {off n c j o : Nat} {k : IntKind} {i : Int} (hx : aev sl x = .buf id off n c) (hy : aev sl y = .int k i) [T : TySl P t e sz by_] (hj : i = (j : Int)) (hi : j < n) (ho : off + j * sz = o) (hs : aput sl dst (.ptr id o) = sl') (h : ATK P ops r sl' σ Q) : ATK P ops (⟨dst, .indexAddr t x y, ty, pos, after, none⟩ :: r) sl σ Q :=
  ATK_pure (av := .ptr id o) rfl (fun M a w hr => by
    obtain ⟨b, h0, h1, _⟩ := buf_inv (ev1 hr hx)
    have h2 := ev1 hr hy
    unfold Reps at h2
    have h8 := fun w => T.sizeOf w
    subst hj ho
    have hi' : (0 : Int) ≤ (j : Int) ∧ (j : Int) < (n : Int) := by omega
    exact ⟨.pointer (some ⟨b, off + j * sz, none⟩), fun w' L => by simp [execOp, h1, h2, Instr.indexAt, run_underlying T.und, asIntOf, hi, h8, addr_add], by unfold Reps; exact ⟨b, h0, rfl⟩⟩) hs h
theorem TS_slice_buf_lh {t e : TypeId} {sz by_ : Nat} {id : Int} {off n c l m : Nat} {k k' : IntKind} {i j : Int} (hx : aev sl x = .buf id off n c) [T : TySl P t e sz by_] (hy : aev sl y = .int k i) (hz : aev sl z = .int k' j) (hl : i = (l : Int)) (hh : j = (m : Int)) (hlm : l ≤ m ∧ m ≤ c ∧ l < c) (hs : aput sl dst (.buf id (off + l * sz) (m - l) (c - l)) = sl') (h : ATK P ops r sl' σ Q) : ATK P ops (⟨dst, .slice t x (some y) (some z) none, ty, pos, after, none⟩ :: r) sl σ Q :=
  ATK_pure (av := .buf id (off + l * sz) (m - l) (c - l)) rfl (fun M a w hr => by
    obtain ⟨b, h0, h1, g1, g2⟩ := buf_inv (ev1 hr hx)
    have h2 := ev1 hr hy
    have h3 := ev1 hr hz
    unfold Reps at h2 h3
    subst hl hh
    have h10 := fun w => T.sizeOf w
    have h11 : l ≤ m := hlm.1
    have h12 : m ≤ c := hlm.2.1
    have h13 : ¬ c = l := by omega
    exact ⟨.slice (some ⟨b, off + l * sz, none⟩) (m - l) (c - l), fun w' L => by simp [execOp, h1, h2, h3, Instr.sliceAt, Instr.slice, run_underlying T.und, Instr.sliceBounds, Instr.sliceBound, asIntOf, h11, h12, h10, h13, addr_add], by unfold Reps; exact ⟨b, h0, rfl, by omega, by omega⟩⟩) hs h
theorem TS_slice_buf_h {t e : TypeId} {sz by_ : Nat} {id : Int} {off n c m : Nat} {k' : IntKind} {j : Int} (hx : aev sl x = .buf id off n c) [T : TySl P t e sz by_] (hz : aev sl z = .int k' j) (hh : j = (m : Int)) (hlm : m ≤ c) (hs : aput sl dst (.buf id off m c) = sl') (h : ATK P ops r sl' σ Q) : ATK P ops (⟨dst, .slice t x none (some z) none, ty, pos, after, none⟩ :: r) sl σ Q :=
  ATK_pure (av := .buf id off m c) rfl (fun M a w hr => by
    obtain ⟨b, h0, h1, g1, g2⟩ := buf_inv (ev1 hr hx)
    have h3 := ev1 hr hz
    unfold Reps at h3
    subst hh
    have h10 := fun w => T.sizeOf w
    have h13 : ¬ c < m := by omega
    refine ⟨.slice (some ⟨b, off, none⟩) m c, fun w' L => ?_, by unfold Reps; exact ⟨b, h0, rfl, hlm, g2⟩⟩
    simp [execOp, h1, h3, Instr.sliceAt, Instr.slice, run_underlying T.und, Instr.sliceBounds, Instr.sliceBound, asIntOf, hlm, h10, h13, addr_add]) hs h
theorem TS_slice_buf_l {t e : TypeId} {sz by_ : Nat} {id : Int} {off n c l : Nat} {k : IntKind} {i : Int} (hx : aev sl x = .buf id off n c) [T : TySl P t e sz by_] (hy : aev sl y = .int k i) (hl : i = (l : Int)) (hlm : l ≤ n ∧ l < c) (hs : aput sl dst (.buf id (off + l * sz) (n - l) (c - l)) = sl') (h : ATK P ops r sl' σ Q) : ATK P ops (⟨dst, .slice t x (some y) none none, ty, pos, after, none⟩ :: r) sl σ Q :=
  ATK_pure (av := .buf id (off + l * sz) (n - l) (c - l)) rfl (fun M a w hr => by
    obtain ⟨b, h0, h1, g1, g2⟩ := buf_inv (ev1 hr hx)
    have h2 := ev1 hr hy
    unfold Reps at h2
    subst hl
    have h10 := fun w => T.sizeOf w
    have h11 : l ≤ n := hlm.1
    have h13 : ¬ c = l := by omega
    have h14 : ¬ n < l := by omega
    exact ⟨.slice (some ⟨b, off + l * sz, none⟩) (n - l) (c - l), fun w' L => by simp [execOp, h1, h2, Instr.sliceAt, Instr.slice, run_underlying T.und, Instr.sliceBounds, Instr.sliceBound, asIntOf, h11, h14, h10, h13, addr_add], by unfold Reps; exact ⟨b, h0, rfl, by omega, by omega⟩⟩) hs h
/-- At the room's end nothing is left. -/
theorem TS_slice_buf_l0 {t e : TypeId} {sz by_ : Nat} {id : Int} {off n c l : Nat} {k : IntKind} {i : Int} (hx : aev sl x = .buf id off n c) [T : TySl P t e sz by_] (hy : aev sl y = .int k i) (hl : i = (l : Int)) (hlm : l = n ∧ l = c) (hs : aput sl dst (.sl .full [] 0) = sl') (h : ATK P ops r sl' σ Q) : ATK P ops (⟨dst, .slice t x (some y) none none, ty, pos, after, none⟩ :: r) sl σ Q :=
  ATK_pure (av := .sl .full [] 0) rfl (fun M a w hr => by
    obtain ⟨b, h0, h1, g1, g2⟩ := buf_inv (ev1 hr hx)
    have h2 := ev1 hr hy
    unfold Reps at h2
    obtain ⟨rfl, rfl⟩ := hlm
    subst hl
    have h10 := fun w => T.sizeOf w
    refine ⟨.slice (some ⟨b, off, none⟩) 0 0, fun w' L => by simp [execOp, h1, h2, Instr.sliceAt, Instr.slice, run_underlying T.und, Instr.sliceBounds, Instr.sliceBound, asIntOf, h10, addr_add], ?_⟩
    unfold Reps
    exact ⟨_, 0, [], rfl, Nat.le_refl _, Nat.zero_le _, fun _ => rfl, .inl rfl, RepsL.nil, fun _ => rfl, rfl⟩) hs h
/-- x[l:m:c'], of which nothing is asked but that it is there. -/
theorem TS_slice_buf_lhm {t e : TypeId} {sz by_ : Nat} {id : Int} {off n c l m q : Nat} {k k' k'' : IntKind} {i j p : Int} {u : Operand} (hx : aev sl x = .buf id off n c) [T : TySl P t e sz by_] (hy : aev sl y = .int k i) (hz : aev sl z = .int k' j) (hu : aev sl u = .int k'' p) (hl : i = (l : Int)) (hh : j = (m : Int)) (hq : p = (q : Int)) (hlm : l ≤ m ∧ m ≤ q ∧ q ≤ c) (hs : aput sl dst .any = sl') (h : ATK P ops r sl' σ Q) : ATK P ops (⟨dst, .slice t x (some y) (some z) (some u), ty, pos, after, none⟩ :: r) sl σ Q :=
  ATK_pure (av := .any) rfl (fun M a w hr => by
    obtain ⟨b, h0, h1, g1, g2⟩ := buf_inv (ev1 hr hx)
    have h2 := ev1 hr hy
    have h3 := ev1 hr hz
    have h4 := ev1 hr hu
    unfold Reps at h2 h3 h4
    subst hl hh hq
    have h10 := fun w => T.sizeOf w
    have h11 : l ≤ m := hlm.1
    have h12 : m ≤ q := hlm.2.1
    have h13 : q ≤ c := hlm.2.2
    exact ⟨_, fun w' L => by simp [execOp, h1, h2, h3, h4, Instr.sliceAt, Instr.slice, run_underlying T.und, Instr.sliceBounds, Instr.sliceBound, asIntOf, h11, h12, h13, h10]; rfl, by unfold Reps; trivial⟩) hs h
/-! ### Loads and stores at a letter's place -/
theorem S_load_aggA {t : TypeId} {sz off : Nat} {id : Int} {cells cs : List AV} (hx : aev sl x = .ptr id off) [T : TyVar P t true sz] (ho : alook objs id = some cells) (hp : aload true sz cells off = some (.agg cs)) (hs : aput sl dst (.agg cs) = sl') (h : AOPS P ops r sl' ⟨objs, toks, next⟩ Q) : AOPS P ops (⟨dst, .load t x, ty, pos, after, none⟩ :: r) sl ⟨objs, toks, next⟩ Q := AOPS_load hx ho hp hs h
theorem acut_one (cells : List AV) (off : Nat) (av : AV) (h : off < cells.length) : acut cells off [av] = cells.set off av := by
  unfold acut
  rw [List.set_eq_take_append_cons_drop, if_pos h]
  simp
theorem S_storeL {t : TypeId} {off : Nat} {id : Int} {cells : List AV} {av : AV} {objs' : List (Int × List AV)} (hx : aev sl x = .ptr id off) (hy : aevo sl y = some av) [T : TyVar P t false 1] (ho : alook objs id = some cells) (hf : av.one = true) (hle : off < cells.length) (hob : asetF objs id (cells.set off av) = some objs') (hs : aput sl dst .und = sl') (h : AOPS P ops r sl' ⟨objs', toks, next⟩ Q) : AOPS P ops (⟨dst, .store t x y, ty, pos, after, none⟩ :: r) sl ⟨objs, toks, next⟩ Q := by
  have h1 : av.cells = [av] := by cases av <;> simp [AV.one] at hf <;> rfl
  have h2 : av.flat = true := by cases av <;> simp [AV.one] at hf <;> rfl
  refine AOPS_store (vs := [av]) hx (aevo_eq hy) ho h1 (by simp [hf]) h2 rfl (by simp; omega) (objs' := objs') ?_ hs h
  rw [acut_one _ _ _ hle]
  exact asetF_ok hob
/-! ### What is appended or copied: out of a buffer, too -/
def SrcS (P : Program) (sz : Nat) (tx : TypeId) (av : AV) (cells : List AV) (m : Nat) (σ : ASt) : Prop := ∀ base Fi M w v, St base Fi M w σ → Reps M w av v → ∃ news, Src P sz tx v m news w ∧ RepsL M w cells news
theorem SrcS.of {sz m : Nat} {tx : TypeId} {av : AV} {cells : List AV} (h : SrcOk P sz tx av cells m) : SrcS P sz tx av cells m σ := fun base Fi M w v _ hr => h M w v hr
theorem SrcS_buf {sz by_ : Nat} {tx e : TypeId} {id : Int} {off m c : Nat} {full cells : List AV} (T : TySl P tx e sz by_) (ho : alook σ.objs id = some full) (hc : (full.drop off).take (m * sz) = cells) (hl : off + m * sz ≤ full.length) (h1 : cells.all AV.one = true) : SrcS P sz tx (.buf id off m c) cells m σ := by
  intro base Fi M w v S h
  obtain ⟨b, h0, rfl, _, _⟩ := buf_inv h
  obtain ⟨_, b', vs, e', h2, _, h4, h5⟩ := S.obs id full ho
  rw [h0] at h2; cases h2
  have h6 : RepsL M w cells ((vs.toList.drop off).take (m * sz)) := by rw [← hc]; exact (h5.drop off).take _
  refine ⟨_, Src.ofSlice w T.und ⟨b, off, none⟩ m c _ ?_ (fun j u hu => ?_) (h6.ones h1), h6⟩
  · have := h5.length
    simp only [Array.length_toList] at this
    simp only [List.length_take, List.length_drop, Array.length_toList]
    omega
  · rw [addr_add, cell_of_row w _ _ _ _ _ h4]
    rw [List.getElem?_take] at hu
    split at hu
    · rw [List.getElem?_drop] at hu; simpa using hu
    · cases hu
/-! ### append -/
theorem drewG (w : World) : Grew w w.drew := ⟨rfl, rfl, rfl, Nat.le_refl _, fun _ _ => rfl⟩
theorem anys_reps : ∀ (k : Nat) (vs : List Value), vs.length = k → RepsL M w (List.replicate k .any) vs
  | 0, vs, h => by rw [List.eq_nil_of_length_eq_zero h]; exact RepsL.nil
  | k + 1, [], h => by cases h
  | k + 1, v :: vs, h => RepsL.cons (by unfold Reps; trivial) (anys_reps k vs (by simpa using h))
/-- A new block, of what is written out. -/
theorem grow_obj (S : St base Fi M w σ) {t e tx : TypeId} {sz by_ : Nat} [T : TySl P t e sz by_] {A : Option Addr} {n c m : Nat} {vs news : List Value} {cells cells2 : List AV} {xv : Value}
    (hold : (Builtin.firstCells sz n (.slice A n c)).run P w.drew = .ok vs.toArray w.drew) (h7 : RepsL M w cells vs) (hlen : cells.length = n * sz) (hsrc : Src P sz tx xv m news w) (h8 : RepsL M w cells2 news) (hgrow : c < n + m) (h63 : n + m ≤ maxLen) (hbytes : (n + m) * by_ ≤ 140737488355328) :
    ∃ v w' M' j, (Builtin.append_ #[t, tx] ty #[.slice A n c, xv]).run P w = .ok v w' ∧ Reps M' w' (.buf σ.next 0 (n + m) (n + m + j)) v ∧ St base Fi M' w' ⟨(σ.next, cells ++ cells2 ++ List.replicate (j * sz) .any) :: σ.objs, σ.toks, σ.next + 1⟩ ∧ Stp base Fi M w M' w' := by
  obtain ⟨i, z, hi, hz, hsz, hby, hzs⟩ := T.info
  subst hsz hby
  have hfit := growslice_fits (need := n + m) (old := c) (bytes := i.bytes) hgrow hbytes
  have hrun := run_append_grow_src w t tx ty e i z T.und hi hz A n c vs hold xv m news hsrc hgrow (by simp only [maxLen] at h63; omega) hfit
  have hge := grownCap_ge w (n + m) c e
  have hcm : grownCap w (n + m) c e ≤ maxLen := grownCap_le_maxLen w (n + m) c e h63
  generalize grownCap w (n + m) c e = cap at hrun hge hcm
  obtain ⟨j, rfl⟩ : ∃ j, cap = n + m + j := ⟨cap - (n + m), by omega⟩
  rw [Nat.add_sub_cancel_left] at hrun
  have G := drewG w
  have S1 := G.st S
  have T1 := G.stp S
  have hR : RepsL M w.drew (cells ++ cells2 ++ List.replicate (j * i.size) .any) ((vs ++ news).toArray ++ Builtin.zeroCells z.cells j).toList := by
    rw [Array.toList_append]
    exact ((RepsL.stp T1 _ _ h7).append (RepsL.stp T1 _ _ h8)).append (anys_reps _ _ (by simp [size_zeroCells, hzs]))
  have N := St.newObj S1 hR e
  have NT := Stp.newObj S1 (.cells ((vs ++ news).toArray ++ Builtin.zeroCells z.cells j) e)
  refine ⟨_, _, _, j, hrun, ?_, N, T1.trans NT⟩
  unfold Reps
  exact ⟨w.heap.size, by simp [MM.obj], rfl, by omega, hcm⟩
theorem AOPS_put {l : List Oper} {v : AV} (hs : aput sl dst v = sl') (h : AOPS P ops l sl' σ Q) : AOPS P ops l (aput sl dst v) σ Q := by rw [hs]; exact h
theorem AOPS_eff_ex {o : Oper} (hg : o.guard = none) (ho : ∀ base Fi M a w, Rel base Fi M a w sl σ → ∃ av σ' v w' M', (execOp a.eval o).run P w = .ok (.value v) w' ∧ Reps M' w' av v ∧ St base Fi M' w' σ' ∧ Stp base Fi M w M' w' ∧ AOPS P ops r (aput sl o.dst av) σ' Q) : AOPS P ops (o :: r) sl σ Q := by
  intro base Fi M0 w0 M a w hst hr
  refine wpList_plain hg fun K hK => ?_
  obtain ⟨av, σ', v, w', M', hrun, hv, hS, hT, hk⟩ := ho base Fi M a w hr
  have hgo : K (a.put o.dst v) w' := by
    refine hK _ _ (hk base Fi M0 w0 M' _ w' (hst.trans hT) ⟨?_, ?_, hS⟩)
    · cases o.dst <;> exact hr.1
    · exact aput_reps (RepsL.stp hT _ _ hr.2.1) o.dst hv
  unfold Oper.wp
  rw [hrun]; exact hgo
def OwnB : Prop := True
theorem OwnB.ok : OwnB := trivial
theorem NoOwn.use (h : True) {p : Prop} (g : p) : p := g
theorem OwnB.use (h : OwnB) {p : Prop} (g : p) : p := g
/-- append onto nil makes a buffer. -/
theorem B_append_nils {t e tx : TypeId} {sz by_ : Nat} {cells2 : List AV} {m : Nat} {av : AV} (hx : aev sl x = .nils) (hy : aevo sl y = some av) [T : TySl P t e sz by_] (hS : SrcS P sz tx av cells2 m ⟨objs, toks, next⟩) (h0 : 0 < m) (hb : m * by_ ≤ 140737488355328 ∧ m ≤ 1000000000000) (h : ∀ j, AOPS P ops r (aput sl dst (.buf next 0 m (m + j))) ⟨(next, cells2 ++ List.replicate (j * sz) .any) :: objs, toks, next + 1⟩ Q) : AOPS P ops (⟨dst, .call { callee := .builtin .append, args := #[x, y], argTypes := #[t, tx] }, ty, pos, after, none⟩ :: r) sl ⟨objs, toks, next⟩ Q :=
  AOPS_eff_ex rfl (fun base Fi M a w hr => by
    have h1 := ev1 hr.2.1 hx
    have h2 := ev1 hr.2.1 (aevo_eq hy)
    unfold Reps at h1
    obtain ⟨news, h3, h4⟩ := hS _ _ _ _ _ hr.2.2 h2
    obtain ⟨v, w', M', j, h5, h6, h7, h8⟩ := grow_obj (ty := ty) hr.2.2 (A := none) (n := 0) (c := 0) (vs := []) (cells := []) (t := t) (run_firstCells_none w.drew sz 0 0 0) RepsL.nil (by simp) h3 h4 (by omega) (by simp only [maxLen]; omega) (by simpa using hb.1)
    simp only [Nat.zero_add, List.nil_append] at h6 h7
    exact ⟨_, _, v, w', M', exec_append h1 rfl h5, h6, h7, h8, h j⟩)
/-- append onto an empty slice without room makes a buffer. -/
theorem B_append_full {t e tx : TypeId} {sz by_ : Nat} {cells2 : List AV} {m : Nat} {av : AV} (hx : aev sl x = .sl .full [] 0) (hy : aevo sl y = some av) [T : TySl P t e sz by_] (hS : SrcS P sz tx av cells2 m ⟨objs, toks, next⟩) (h0 : 0 < m) (hb : m * by_ ≤ 140737488355328 ∧ m ≤ 1000000000000) (h : ∀ j, AOPS P ops r (aput sl dst (.buf next 0 m (m + j))) ⟨(next, cells2 ++ List.replicate (j * sz) .any) :: objs, toks, next + 1⟩ Q) : AOPS P ops (⟨dst, .call { callee := .builtin .append, args := #[x, y], argTypes := #[t, tx] }, ty, pos, after, none⟩ :: r) sl ⟨objs, toks, next⟩ Q :=
  AOPS_eff_ex rfl (fun base Fi M a w hr => by
    have h1 := ev1 hr.2.1 hx
    have h2 := ev1 hr.2.1 (aevo_eq hy)
    unfold Reps at h1
    obtain ⟨A, c, vs, h1, k2, k3, k4, k5, k6, k7, k8⟩ := h1
    simp only [OwnOk] at k8
    subst k8
    obtain ⟨news, h3, h4⟩ := hS _ _ _ _ _ hr.2.2 h2
    have hold : (Builtin.firstCells sz 0 (.slice A 0 0)).run P w.drew = .ok ([] : List Value).toArray w.drew := by
      cases A with
      | none => exact run_firstCells_none w.drew sz 0 0 0
      | some q => exact run_firstCells_some w.drew sz 0 q 0 0 [] (by simp) (fun j v hj => by simp at hj)
    obtain ⟨v, w', M', j, h5, h6, h7, h8⟩ := grow_obj (ty := ty) hr.2.2 (A := A) (n := 0) (c := 0) (vs := []) (cells := []) (t := t) hold RepsL.nil (by simp) h3 h4 (by omega) (by simp only [maxLen]; omega) (by simpa using hb.1)
    simp only [Nat.zero_add, List.nil_append] at h6 h7
    exact ⟨_, _, v, w', M', exec_append h1 rfl h5, h6, h7, h8, h j⟩)
/-- append onto a buffer that has no room for it: a new one. -/
theorem B_append_grow {t e tx : TypeId} {sz by_ : Nat} {id : Int} {off n c : Nat} {full cells cells2 : List AV} {m : Nat} {av : AV} (hx : aev sl x = .buf id off n c) (hy : aevo sl y = some av) [T : TySl P t e sz by_] (ho : alook objs id = some full) (hS : SrcS P sz tx av cells2 m ⟨objs, toks, next⟩) (hg : c < n + m) (hc : (full.drop off).take (n * sz) = cells) (hl : off + n * sz ≤ full.length) (hb : (n + m) * by_ ≤ 140737488355328 ∧ n + m ≤ 1000000000000) (h : ∀ j, AOPS P ops r (aput sl dst (.buf next 0 (n + m) (n + m + j))) ⟨(next, cells ++ cells2 ++ List.replicate (j * sz) .any) :: objs, toks, next + 1⟩ Q) : AOPS P ops (⟨dst, .call { callee := .builtin .append, args := #[x, y], argTypes := #[t, tx] }, ty, pos, after, none⟩ :: r) sl ⟨objs, toks, next⟩ Q :=
  AOPS_eff_ex rfl (fun base Fi M a w hr => by
    obtain ⟨b, g0, h1, g1, g2⟩ := buf_inv (ev1 hr.2.1 hx)
    have h2 := ev1 hr.2.1 (aevo_eq hy)
    obtain ⟨news, h3, h4⟩ := hS _ _ _ _ _ hr.2.2 h2
    obtain ⟨_, b', vs, e', k2, _, k4, k5⟩ := hr.2.2.obs id full ho
    rw [g0] at k2; cases k2
    have h6 : RepsL M w cells ((vs.toList.drop off).take (n * sz)) := by rw [← hc]; exact (k5.drop off).take _
    have hvl := k5.length
    simp only [Array.length_toList] at hvl
    have hlen : ((vs.toList.drop off).take (n * sz)).length = n * sz := by
      simp only [List.length_take, List.length_drop, Array.length_toList]; omega
    have hold : (Builtin.firstCells sz n (.slice (some ⟨b, off, none⟩) n c)).run P w.drew = .ok ((vs.toList.drop off).take (n * sz)).toArray w.drew := by
      refine run_firstCells_some w.drew sz n ⟨b, off, none⟩ n c _ hlen (fun j u hu => ?_)
      have : w.drew.cell? ((⟨b, off, none⟩ : Addr).add j) = w.cell? ((⟨b, off, none⟩ : Addr).add j) := rfl
      rw [this, addr_add, cell_of_row w _ _ _ _ _ k4]
      rw [List.getElem?_take] at hu
      split at hu
      · rw [List.getElem?_drop] at hu; simpa using hu
      · cases hu
    obtain ⟨v, w', M', j, h5, h6, h7, h8⟩ := grow_obj (ty := ty) hr.2.2 (t := t) hold h6 (by rw [← h6.length]; exact hlen) h3 h4 hg (by simp only [maxLen]; omega) hb.1
    exact ⟨_, _, v, w', M', exec_append h1 rfl h5, h6, h7, h8, h j⟩)
/-- append into a buffer's room. -/
theorem B_append_room {t e tx : TypeId} {sz by_ : Nat} {id : Int} {off n c : Nat} {full cells2 cells' : List AV} {m : Nat} {av : AV} {objs' : List (Int × List AV)} (hx : aev sl x = .buf id off n c) (hy : aevo sl y = some av) [T : TySl P t e sz by_] (ho : alook objs id = some full) (hS : SrcS P sz tx av cells2 m ⟨objs, toks, next⟩) (hg : n + m ≤ c) (hl : off + (n + m) * sz ≤ full.length) (hc : acut full (off + n * sz) cells2 = cells') (hob : asetF objs id cells' = some objs') (hs : aput sl dst (.buf id off (n + m) c) = sl') (h : AOPS P ops r sl' ⟨objs', toks, next⟩ Q) : AOPS P ops (⟨dst, .call { callee := .builtin .append, args := #[x, y], argTypes := #[t, tx] }, ty, pos, after, none⟩ :: r) sl ⟨objs, toks, next⟩ Q :=
  AOPS_eff_ex rfl (fun base Fi M a w hr => by
    obtain ⟨b, g0, h1, g1, g2⟩ := buf_inv (ev1 hr.2.1 hx)
    have h2 := ev1 hr.2.1 (aevo_eq hy)
    obtain ⟨news, h3, h4⟩ := hS _ _ _ _ _ hr.2.2 h2
    obtain ⟨hF, b', cur, e', k2, hbase, k4, k5⟩ := hr.2.2.obs id full ho
    rw [g0] at k2; cases k2
    obtain ⟨i, z, hi, hz, hsz, hby, hzs⟩ := T.info
    subst hsz
    have hnl := h3.newsLen
    have hvl := k5.length
    simp only [Array.length_toList] at hvl
    have hmul : (n + m) * i.size = n * i.size + m * i.size := Nat.add_mul _ _ _
    have hst := run_storeCells_free P b (off + n * i.size) e'.1 _ news 0 cur w k4 (fun j hj => nfz_free _ _ j hj) (by omega) h3.one
    simp only [Nat.add_zero] at hst
    have hrun : (Builtin.append_ #[t, tx] ty #[.slice (some ⟨b, off, none⟩) n c, a.eval y]).run P w = .ok (.slice (some ⟨b, off, none⟩) (n + m) c) (w.setRow b (cur.toList.take (off + n * i.size) ++ news ++ cur.toList.drop (off + n * i.size + news.length)).toArray) := by
      rcases h3.kind with ⟨e', hk⟩ | hk <;> simp [Builtin.append_, run_underlying T.und, run_underlying hk, sizeOf, typeInfo, hi, h3.len, hg, h3.cells, addr_add, hst]
    have hR : RepsL M w cells' (cur.toList.take (off + n * i.size) ++ news ++ cur.toList.drop (off + n * i.size + news.length)) := by
      rw [← hc]
      unfold acut
      rw [← h4.length]
      exact ((k5.take _).append h4).append (k5.drop _)
    have N := St.store hr.2.2 ho g0 hbase k4 (cells' := cells') (vs := (cur.toList.take (off + n * i.size) ++ news ++ cur.toList.drop (off + n * i.size + news.length)).toArray) (by simp only [List.size_toArray, List.length_append, List.length_take, List.length_drop, Array.length_toList]; omega) hR
    have NT := Stp.store hr.2.2 g0 hF.1 hF.2 hbase k4 (cur.toList.take (off + n * i.size) ++ news ++ cur.toList.drop (off + n * i.size + news.length)).toArray
    rw [asetF_ok hob] at N
    refine ⟨.buf id off (n + m) c, _, _, _, _, exec_append h1 rfl hrun, ?_, N, NT, by show AOPS P ops r (aput sl dst _) _ Q; rw [hs]; exact h⟩
    unfold Reps
    exact ⟨b, g0, rfl, hg, g2⟩)
/-! ### []byte("..") of a constant: a literal that is marked -/
theorem freezeW (w : World) {b : Nat} {cur : Array Value} {e : TypeId} {fr : Nat × Nat} (h : w.heap[b]? = some (.cells cur e fr)) (k : Nat) : (∀ i, i ≠ b → (w.freeze ⟨b, k, none⟩ 1).heap[i]? = w.heap[i]?) ∧ (∀ a, (w.freeze ⟨b, k, none⟩ 1).cell? a = w.cell? a) ∧ (w.freeze ⟨b, k, none⟩ 1).heap.size = w.heap.size ∧ (w.freeze ⟨b, k, none⟩ 1).os = w.os ∧ (w.freeze ⟨b, k, none⟩ 1).tape = w.tape ∧ (w.freeze ⟨b, k, none⟩ 1).output = w.output := by
  have hlt : b < w.heap.size := (Array.getElem?_eq_some_iff.1 h).1
  unfold World.freeze
  rw [if_neg (by decide)]
  refine ⟨fun i hi => ?_, fun a => ?_, by simp, rfl, rfl, rfl⟩
  · simp only [Array.getElem?_modify]
    rw [if_neg (Ne.symm hi)]
  · simp only [World.cell?, Array.getElem?_modify]
    by_cases ha : b = a.block
    · rw [if_pos ha, ← ha, h]
      rfl
    · rw [if_neg ha]
theorem frzW_ok (S : St base Fi M w σ) {id : Int} {b : Nat} {cells : List AV} (ho : alook σ.objs id = some cells) (hb : M.ob id = some b) {w' : World} (h1 : ∀ i, i ≠ b → w'.heap[i]? = w.heap[i]?) (h2 : ∀ a, w'.cell? a = w.cell? a) (h3 : w'.heap.size = w.heap.size) (h4 : w'.os = w.os) (h5 : w'.tape = w.tape) (h6 : w'.output = w.output) : Stp base Fi M w (M.frz id) w' ∧ St base Fi (M.frz id) w' ⟨adel σ.objs id, σ.toks, σ.next⟩ := by
  obtain ⟨hF, b', vs, e, g1, g2, g3, g4⟩ := S.obs id cells ho
  rw [hb] at g1; cases g1
  have T : Stp base Fi M w (M.frz id) w' := by
    refine ⟨h4, h5, h6, by omega, fun k hk => h1 k (by omega), fun _ _ h => h, fun i T h => ⟨T, h, rfl, .inl rfl⟩, fun c j v hs hc => ⟨by rw [h2]; exact hc, fun i h => .inr (hs.1 i h), hs.2⟩, fun i c hf hc => h1 c ?_, fun i hf hz => ?_, fun i T c e' ce hf hT hc => h1 c ?_⟩
    · rintro rfl; exact hF.1 (S.inj id i c hb hc ▸ hf)
    · rcases hz with rfl | hz
      · exact absurd hf hF.1
      · exact hz
    · rintro rfl; exact S.dis id i c T e' ce hb hT hc
  refine ⟨T, by rw [h3]; exact S.base_le, fun i c hl => ?_, fun i t hl => ?_, fun i sh kvs hl => ?_, S.inj, S.dis, S.tinj, fun i c h => by rw [h3]; exact S.obsz i c h, fun i T c e' ce a1 a2 => by rw [h3]; exact S.tksz i T c e' ce a1 a2, fun i hi => ?_⟩
  · simp only [alook_adel] at hl
    split at hl
    · cases hl
    · rename_i hne
      obtain ⟨k1, b2, us, e2, k2, k3, k4, k5⟩ := S.obs i c hl
      exact ⟨⟨k1.1, fun hz => hz.elim hne k1.2⟩, b2, us, e2, k2, k3, by rw [h1 b2 (by rintro rfl; exact hne (S.inj i id b2 k2 hb))]; exact k4, RepsL.stp T _ _ k5⟩
  · obtain ⟨k1, Tk, k2, k3, k4⟩ := S.tks i t hl
    refine ⟨k1, Tk, k2, k3, fun c e' ce hc => ?_⟩
    obtain ⟨k5, k6⟩ := k4 c e' ce hc
    exact ⟨k5, k6.heap (h1 c (by rintro rfl; exact S.dis id i c Tk e' ce hb k2 hc))⟩
  · have hm := S.mps i sh kvs hl
    have hne : ∀ c o, M.ob i = some c → w.heap[c]? = some o → NoRow o → c ≠ b := by
      rintro c o _ k2 k3 rfl
      rw [g3] at k2; exact k3 _ _ _ (Option.some.inj k2).symm
    refine ⟨⟨hm.1.1, fun hz => hz.elim (fun e => ?_) hm.1.2⟩, hm.2.stp T fun c o k1 k2 k4 => by rw [h1 c (hne c o k1 k2 k4)]; exact k2⟩
    obtain ⟨c, o, k1, _, k3, k4⟩ := hm.2
    subst e
    rw [hb] at k1; cases k1
    exact hne _ o hb k3 k4.noRow rfl
  · obtain ⟨k1, k2, k3, k4⟩ := S.fresh i hi
    refine ⟨k1, k2, k3, fun hz => hz.elim (fun e => ?_) k4⟩
    subst e
    rw [k1] at hb; cases hb
def RowB : Prop := True
theorem RowB.ok : RowB := trivial
theorem RowB.use (h : RowB) {p : Prop} (g : p) : p := g
/-- A literal, as an object. -/
theorem B_litRow {t e : TypeId} {by_ : Nat} {agg : Bool} {zs : List Value} [T : TySl P t e 1 by_] [B : TyInt P e .u8] [Z : TyZero P e agg zs] {len : Nat} {ps : List (Nat × Operand)} {cells : List AV} {nx : Int} (hp : litF sl 0 ps = some cells) (ho : cells.all AV.one = true) (hl : cells.length = len) (hzl : zs.length = 1) (hb : len ≤ 16777216) (hs : aput sl dst (.row next 0 len) = sl') (hn : next + 1 = nx) (h : AOPS P ops r sl' ⟨(next, cells) :: objs, toks, nx⟩ Q) : AOPS P ops (⟨dst, .buildSlice t len ps.toArray, ty, pos, after, none⟩ :: r) sl ⟨objs, toks, next⟩ Q := by
  subst hn
  have h1 := litF_fill (cells := azeros zs (len * 1)) hp ho (by simp [azeros]; omega)
  have hf : afill (fun i => some (i * 1, 1)) (azeros zs (len * 1)) (aparts sl ps) = some cells := by
    rw [h1]
    congr 1
    simp only [acut, List.take_zero, List.nil_append, Nat.zero_add]
    rw [List.drop_eq_nil_of_le (by simp [azeros]; omega), List.append_nil]
  refine AOPS_eff (av := .row next 0 len) rfl (fun base Fi M a w hr => ?_) hs h
  obtain ⟨vs, h1, h2⟩ := buildSlice_ok (T := T) (Z := Z) (aparts_ok hr.2.1 ps) (by omega) hf hzl
  refine ⟨.slice (some ⟨w.heap.size, 0, none⟩) len len, w.alloc (.cells vs e), _, .inl ?_, ?_, St.newObj hr.2.2 h2 e, Stp.newObj hr.2.2 _⟩
  · simp only [execOp, List.map_toArray, Sem.run_bind]
    rw [show (List.map (fun x => (x.1, a.eval x.2)) ps).toArray = (ps.map fun p => (p.1, a.eval p.2)).toArray from rfl, h1]
    rfl
  · unfold Reps
    exact ⟨w.heap.size, by simp [MM.obj], rfl, by simp only [maxLen]; omega⟩
def adelF {α : Type} : List (Int × α) → Int → Option (List (Int × α))
  | [], _ => some []
  | (k, v) :: r, id => match adelF r id with
    | some q => if k = id then some q else some ((k, v) :: q)
    | none => none
theorem adelF_ok {α : Type} : ∀ {l q : List (Int × α)} {id : Int}, adelF l id = some q → adel l id = q
  | [], q, id, h => by simp [adelF] at h; simp [adel, h]
  | (k, v) :: r, q, id, h => by
    simp only [adelF] at h
    split at h
    · rename_i q' hq
      have ih := adelF_ok hq
      unfold adel
      split at h
      · rename_i hk
        cases h
        simp [hk, ih]
      · rename_i hk
        cases h
        simp [hk, ih]
    · cases h
/-- []byte(x) of such: the same bytes, which nobody writes to. -/
theorem B_conv_row {t e : TypeId} {by_ : Nat} [T : TySl P t e 1 by_] [B : TyInt P e .u8] {id : Int} {n : Nat} {cells : List AV} {objs' : List (Int × List AV)} (hx : aev sl x = .row id 0 n) (ho : alook objs id = some cells) (h0 : n = 0 → cells = []) (hob : adelF objs id = some objs') (hs : aput sl dst (.sl .full cells n) = sl') (h : AOPS P ops r sl' ⟨objs', toks, next⟩ Q) : AOPS P ops (⟨dst, .convert t t x, ty, pos, after, none⟩ :: r) sl ⟨objs, toks, next⟩ Q := by
  have hob := adelF_ok hob
  subst hob
  refine AOPS_eff (av := .sl .full cells n) rfl (fun base Fi M a w hr => ?_) hs h
  have h1 := ev1 hr.2.1 hx
  unfold Reps at h1
  obtain ⟨b, g0, h1, g2⟩ := h1
  obtain ⟨hF, b', cur, e', k2, hbase, k4, k5⟩ := hr.2.2.obs id cells ho
  rw [g0] at k2; cases k2
  obtain ⟨f1, f2, f3, f4, f5, f6⟩ := freezeW w k4 cur.size
  obtain ⟨F1, F2⟩ := frzW_ok hr.2.2 ho g0 f1 f2 f3 f4 f5 f6
  have hsh : w.shape? b = some (e'.1, cur.size) := by simp only [World.shape?, k4]
  refine ⟨.slice (some ⟨b, 0, none⟩) n n, w.freeze ⟨b, cur.size, none⟩ 1, M.frz id, .inl ?_, ?_, F2, F1⟩
  · simp [execOp, h1, convert, run_underlying T.und, run_underlying B.und, markStringish, hsh]
  · unfold Reps
    refine ⟨_, n, cur.toList, rfl, Nat.le_refl n, g2, (fun h => by cases h), .inr ⟨b, 0, rfl, fun j u hu => ?_⟩, RepsL.stp F1 _ _ k5, h0, by unfold OwnOk; rfl⟩
    rw [Nat.zero_add]
    refine ⟨by rw [f2, cell_of_row w _ _ _ _ _ k4]; simpa using hu, fun i hi => .inl (hr.2.2.inj i id b hi g0), fun i Tk e' ce h9 h10 => absurd h10 (hr.2.2.dis id i b Tk e' ce g0 h9)⟩
def MkB : Prop := True
theorem MkB.ok : MkB := trivial
theorem MkB.use (h : MkB) {p : Prop} (g : p) : p := g
/-- make, of what nobody writes to. -/
theorem B_makeF {t e : TypeId} {by_ : Nat} {agg : Bool} {v : Value} [T : TySl P t e 1 by_] [Z : TyZero P e agg [v]] {n : Nat} {k k' : IntKind} {i j : Int} {cs : List AV} {av : AV} (hx : aev sl x = .int k i) (hy : aev sl y = .int k' j) (hi : i = (n : Int)) (hj : j = (n : Int)) (hb : by_ * n ≤ 281474976710656 ∧ n ≤ 1000000000) (hv : aevo [] (.const v) = some av) (hz : zF av n = some cs) (hs : aput sl dst (.sl .full cs n) = sl') (h : AOPS P ops r sl' ⟨objs, toks, next⟩ Q) : AOPS P ops (⟨dst, .makeSlice t x y, ty, pos, after, none⟩ :: r) sl ⟨objs, toks, next⟩ Q :=
  AOPS_eff (av := .sl .full cs n) rfl (fun base Fi M a w hr => by
    have h1 := ev1 hr.2.1 hx
    have h2 := ev1 hr.2.1 hy
    unfold Reps at h1 h2
    subst hi hj
    obtain ⟨i, z, hi, hz0, hsz, hby, hzs⟩ := T.info
    obtain ⟨z', hz', hzs'⟩ := Z.run w
    have e1 : z' = z := by
      have : (zeroValue e).run P w = .ok z w := by simp [zeroValue, typeInfo, hi, hz0]
      rw [this] at hz'; cases hz'; rfl
    subst e1
    have h3 := run_make (P := P) w t e i z' T.und hi hz0 k k' n n (by omega) (by omega) (by rw [hby]; omega) (by omega)
    simp only [Int.toNat_natCast, hsz] at h3
    have hcs : azeros [v] (n * 1) = cs := by
      have h5 := azeros_eq [v] (by simp) n
      rw [show ([v] : List Value).length = 1 from rfl] at h5
      rw [h5]
      exact zF_ok (by rw [← hz]; congr 1; exact (aevo_eq hv))
    have hR : RepsL M w cs (madeCells z'.cells (n * 1)).toList := by rw [← hcs]; exact azeros_ok (z := z'.cells) hzs' (by simp) (n * 1)
    have hl : cs.length = n := by rw [← hcs]; simp [azeros]
    have hG := Grew.alloc w (.cells (madeCells z'.cells (n * 1)) e)
    refine ⟨_, _, M, .inl ?_, Reps.newRow hr.2.2 hG (heap_alloc_new w _) (fun j u hu => by simpa using hu) hR (Nat.le_refl n) (by simp only [maxLen]; omega) (fun h0 => List.eq_nil_of_length_eq_zero (by omega)) (by unfold OwnOk; rfl), hG.st hr.2.2, hG.stp hr.2.2⟩
    simp only [execOp, h1, h2, Sem.run_bind, h3, Result.andThen_ok, Sem.run_pure]) hs h
/-! ### Long regions -/
theorem AOPS_app {o : Oper} {l1 l2 : List Oper} (h : AOPS P ops (o :: List.append l1 l2) sl σ Q) : AOPS P ops (List.append (o :: l1) l2) sl σ Q := h
theorem AOPS_app0 {l2 : List Oper} (h : AOPS P ops l2 sl σ Q) : AOPS P ops (List.append [] l2) sl σ Q := h
end Go.Proofs.Ytnjkklkjlloedaa
