/- The abstract machine: structs, slices, texts, interfaces: operations that turn no memory. -/
import Derived.Test.YtnjkklkjlloedaaAm3
namespace Go.Proofs.Ytnjkklkjlloedaa
open Go.RowKit
set_option linter.unusedVariables false
set_option linter.unusedSimpArgs false

variable {base : Nat} {Fi : Int → Prop} {M M' M'' : MM} {w w' w'' : World}
variable {P : Program} {ops : Array Oper} {r : List Oper} {sl sl' : List AV} {σ σ' : ASt} {Q : Exit → List AV → ASt → Prop}
variable {d : Tmp} {dst : Option Tmp} {ty : TypeId} {pos : String} {after : Array Edge} {x y z : Operand} {gd : Option (Nat × Bool)} {op : Op}

theorem ev1 {a : Act} (hr : RepsL M w sl a.tmps.toList) {av : AV} (hx : aev sl x = av) : Reps M w av (a.eval x) := hx ▸ aev_reps hr x

theorem ba_size (l : List UInt8) : (⟨l.toArray⟩ : ByteArray).size = l.length := by simp [ByteArray.size]
/-! ### Lengths -/
theorem AOPS_len_sl {t : TypeId} {own : AOwn} {cells : List AV} {n : Nat} (hx : aev sl x = .sl own cells n) {e : TypeId} {sz by_ : Nat} [T : TySl P t e sz by_] (hs : aput sl dst (.int .i64 n) = sl') (h : AOPS P ops r sl' σ Q) : AOPS P ops (⟨dst, .call { callee := .builtin .len, args := #[x], argTypes := #[t] }, ty, pos, after, none⟩ :: r) sl σ Q :=
  AOPS_pure (av := .int .i64 n) rfl (fun M a w hr => by
    have h1 := ev1 hr hx
    unfold Reps at h1
    obtain ⟨A, c, vs, h1, _⟩ := h1
    exact ⟨.int .i64 n, fun w' L => by simp [execOp, h1, resolve, invoke, builtin, Builtin.len_, run_underlying T.und, goInt], Reps_int⟩) hs h
theorem AOPS_len_nils {t : TypeId} (hx : aev sl x = .nils) {e : TypeId} {sz by_ : Nat} [T : TySl P t e sz by_] (hs : aput sl dst (.int .i64 0) = sl') (h : AOPS P ops r sl' σ Q) : AOPS P ops (⟨dst, .call { callee := .builtin .len, args := #[x], argTypes := #[t] }, ty, pos, after, none⟩ :: r) sl σ Q :=
  AOPS_pure (av := .int .i64 0) rfl (fun M a w hr => by
    have h1 := ev1 hr hx
    unfold Reps at h1
    exact ⟨.int .i64 0, fun w' L => by simp [execOp, h1, resolve, invoke, builtin, Builtin.len_, run_underlying T.und, goInt], Reps_int⟩) hs h
theorem AOPS_len_row {t : TypeId} {id : Int} {off n : Nat} (hx : aev sl x = .row id off n) {e : TypeId} {sz by_ : Nat} [T : TySl P t e sz by_] (hs : aput sl dst (.int .i64 n) = sl') (h : AOPS P ops r sl' σ Q) : AOPS P ops (⟨dst, .call { callee := .builtin .len, args := #[x], argTypes := #[t] }, ty, pos, after, none⟩ :: r) sl σ Q :=
  AOPS_pure (av := .int .i64 n) rfl (fun M a w hr => by
    have h1 := ev1 hr hx
    unfold Reps at h1
    obtain ⟨b, _, h1, _⟩ := h1
    exact ⟨.int .i64 n, fun w' L => by simp [execOp, h1, resolve, invoke, builtin, Builtin.len_, run_underlying T.und, goInt], Reps_int⟩) hs h
theorem AOPS_len_str {t : TypeId} {s : List UInt8} (hx : aev sl x = .str s) [T : TyStr P t] (hs : aput sl dst (.int .i64 s.length) = sl') (h : AOPS P ops r sl' σ Q) : AOPS P ops (⟨dst, .call { callee := .builtin .len, args := #[x], argTypes := #[t] }, ty, pos, after, none⟩ :: r) sl σ Q :=
  AOPS_pure (av := .int .i64 s.length) rfl (fun M a w hr => by
    have h1 := ev1 hr hx
    unfold Reps at h1
    exact ⟨.int .i64 s.length, fun w' L => by simp [execOp, h1.1, resolve, invoke, builtin, Builtin.len_, run_underlying T.und, goInt, ba_size], Reps_int⟩) hs h
theorem AOPS_len_arr {t e : TypeId} {n : Nat} [T : TyArr P t n e] (hs : aput sl dst (.int .i64 n) = sl') (h : AOPS P ops r sl' σ Q) : AOPS P ops (⟨dst, .call { callee := .builtin .len, args := #[x], argTypes := #[t] }, ty, pos, after, none⟩ :: r) sl σ Q :=
  AOPS_pure (av := .int .i64 n) rfl (fun M a w hr => by
    exact ⟨.int .i64 n, fun w' L => by simp [execOp, resolve, invoke, builtin, Builtin.len_, run_underlying T.und, goInt], Reps_int⟩) hs h

/-! ### Fields, elements -/
class TyFldS (P : Program) (t : TypeId) (f : Nat) (off : outParam Nat) (agg : outParam Bool) (sz : outParam Nat) : Prop where
  fld : ∃ ft, TyFld P t f off ft ∧ TyVar P ft agg sz
  pos : 0 < sz
def apart (agg : Bool) (sz : Nat) (cells : List AV) (off : Nat) : Option AV := if agg = true then some (.agg ((cells.drop off).take sz)) else cells[off]?
theorem apart_ok {t : TypeId} {agg : Bool} {sz off : Nat} {cells : List AV} {vs : Array Value} {av : AV} (T : TyVar P t agg sz) (h : RepsL M w cells vs.toList) (ha : apart agg sz cells off = some av) : ∃ v, (∀ w', (part t vs off).run P w' = .ok v w') ∧ Reps M w av v := by
  have h1 := fun w => T.isAgg w
  have h2 := fun w => T.sizeOf w
  cases agg with
  | true =>
    simp only [apart, if_true, Option.some.injEq] at ha
    subst ha
    refine ⟨.agg (vs.extract off (off + sz)), fun w' => by simp [part, h1, h2], ?_⟩
    unfold Reps
    refine ⟨_, rfl, ?_⟩
    have := (h.drop off).take sz
    simpa [List.take_drop, Nat.add_comm] using this
  | false =>
    simp only [apart, Bool.false_eq_true, if_false] at ha
    obtain ⟨v, hv, hr⟩ := h.get off av ha
    exact ⟨v, fun w' => by simp [part, h1]; rw [show vs[off]? = some v by simpa using hv]; rfl, hr⟩
theorem fieldAt_ok {t : TypeId} {f off : Nat} {agg : Bool} {sz : Nat} [T : TyFldS P t f off agg sz] (b o : Nat) (w : World) : (Instr.fieldAt t (.pointer (some ⟨b, o, none⟩)) f).run P w = .ok (.pointer (some ⟨b, o + off, none⟩)) w := by
  obtain ⟨ft, F, V⟩ := T.fld
  obtain ⟨fs, x, h1, h2, rfl, rfl⟩ := F.und
  have h3 := V.sizeOf w
  have h4 := T.pos
  have h5 : sz ≠ 0 := by omega
  simp [Instr.fieldAt, run_underlying h1, h2, Instr.sureAddr, fieldPlace, h3, h5, addr_add]
theorem AOPS_fieldAddr {t : TypeId} {f off o : Nat} {id : Int} {agg : Bool} {sz : Nat} (hx : aev sl x = .ptr id o) [T : TyFldS P t f off agg sz] (hs : aput sl dst (.ptr id (o + off)) = sl') (h : AOPS P ops r sl' σ Q) : AOPS P ops (⟨dst, .fieldAddr t x f, ty, pos, after, none⟩ :: r) sl σ Q :=
  AOPS_pure (av := .ptr id (o + off)) rfl (fun M a w hr => by
    have h1 := ev1 hr hx
    unfold Reps at h1
    obtain ⟨b, h0, h1⟩ := h1
    exact ⟨.pointer (some ⟨b, o + off, none⟩), fun w' L => by simp [execOp, h1, fieldAt_ok], by unfold Reps; exact ⟨b, h0, rfl⟩⟩) hs h
theorem AOPS_fieldAddr_epr {t : TypeId} {f off o : Nat} {cells : List AV} {agg : Bool} {sz : Nat} (hx : aev sl x = .epr cells o) [T : TyFldS P t f off agg sz] (hs : aput sl dst (.epr cells (o + off)) = sl') (h : AOPS P ops r sl' σ Q) : AOPS P ops (⟨dst, .fieldAddr t x f, ty, pos, after, none⟩ :: r) sl σ Q :=
  AOPS_pure (av := .epr cells (o + off)) rfl (fun M a w hr => by
    have h1 := ev1 hr hx
    unfold Reps at h1
    obtain ⟨b, o', vs, h1, h2, h3⟩ := h1
    exact ⟨.pointer (some ⟨b, o' + o + off, none⟩), fun w' L => by simp [execOp, h1, fieldAt_ok], by unfold Reps; exact ⟨b, o', vs, by rw [Nat.add_assoc], h2, h3⟩⟩) hs h
theorem AOPS_field {t : TypeId} {f off : Nat} {agg : Bool} {sz : Nat} {cells : List AV} {av : AV} (hx : aev sl x = .agg cells) [T : TyFldS P t f off agg sz] (hp : apart agg sz cells off = some av) (hs : aput sl dst av = sl') (h : AOPS P ops r sl' σ Q) : AOPS P ops (⟨dst, .field t x f, ty, pos, after, none⟩ :: r) sl σ Q :=
  AOPS_pure (av := av) rfl (fun M a w hr => by
    have h1 := ev1 hr hx
    unfold Reps at h1
    obtain ⟨vs, h1, h2⟩ := h1
    obtain ⟨ft, F, V⟩ := T.fld
    obtain ⟨fs, x, h3, h4, rfl, rfl⟩ := F.und
    obtain ⟨v, h5, h6⟩ := apart_ok V h2 hp
    exact ⟨v, fun w' L => by simp [execOp, h1, Instr.field, run_underlying h3, h4, asAgg, h5], h6⟩) hs h
theorem AOPS_indexAddr {t e : TypeId} {sz by_ : Nat} {own : AOwn} {cells : List AV} {n : Nat} {k : IntKind} {i : Int} (hx : aev sl x = .sl own cells n) (hy : aev sl y = .int k i) [T : TySl P t e sz by_] (hi : 0 ≤ i ∧ i < n) (hs : aput sl dst (.epr cells (i.toNat * sz)) = sl') (h : AOPS P ops r sl' σ Q) : AOPS P ops (⟨dst, .indexAddr t x y, ty, pos, after, none⟩ :: r) sl σ Q :=
  AOPS_pure (av := .epr cells (i.toNat * sz)) rfl (fun M a w hr => by
    have h1 := ev1 hr hx
    have h2 := ev1 hr hy
    unfold Reps at h1 h2
    obtain ⟨A, c, vs, h1, h3, h4, h5, h6, h7, _⟩ := h1
    obtain ⟨b, o, rfl, hm⟩ := h6.resolve_left (by omega)
    have h8 := fun w => T.sizeOf w
    exact ⟨.pointer (some ⟨b, o + i.toNat * sz, none⟩), fun w' L => by simp [execOp, h1, h2, Instr.indexAt, run_underlying T.und, asIntOf, hi, h8, addr_add], by unfold Reps; exact ⟨b, o, vs, rfl, hm, h7⟩⟩) hs h
theorem AOPS_indexAddr_row {t e : TypeId} {sz by_ : Nat} {id : Int} {off n : Nat} {k : IntKind} {i : Int} (hx : aev sl x = .row id off n) (hy : aev sl y = .int k i) [T : TySl P t e sz by_] (hi : 0 ≤ i ∧ i < n) (hs : aput sl dst (.ptr id (off + i.toNat * sz)) = sl') (h : AOPS P ops r sl' σ Q) : AOPS P ops (⟨dst, .indexAddr t x y, ty, pos, after, none⟩ :: r) sl σ Q :=
  AOPS_pure (av := .ptr id (off + i.toNat * sz)) rfl (fun M a w hr => by
    have h1 := ev1 hr hx
    have h2 := ev1 hr hy
    unfold Reps at h1 h2
    obtain ⟨b, h0, h1, _⟩ := h1
    have h8 := fun w => T.sizeOf w
    exact ⟨.pointer (some ⟨b, off + i.toNat * sz, none⟩), fun w' L => by simp [execOp, h1, h2, Instr.indexAt, run_underlying T.und, asIntOf, hi, h8, addr_add], by unfold Reps; exact ⟨b, h0, rfl⟩⟩) hs h
theorem AOPS_indexAddr_arr {t e : TypeId} {sz m : Nat} {agg : Bool} {id : Int} {off : Nat} {k : IntKind} {i : Int} (hx : aev sl x = .ptr id off) (hy : aev sl y = .int k i) [T : TyArr P t m e] [V : TyVar P e agg sz] (hi : 0 ≤ i ∧ i < m) (hs : aput sl dst (.ptr id (off + i.toNat * sz)) = sl') (h : AOPS P ops r sl' σ Q) : AOPS P ops (⟨dst, .indexAddr t x y, ty, pos, after, none⟩ :: r) sl σ Q :=
  AOPS_pure (av := .ptr id (off + i.toNat * sz)) rfl (fun M a w hr => by
    have h1 := ev1 hr hx
    have h2 := ev1 hr hy
    unfold Reps at h1 h2
    obtain ⟨b, h0, h1⟩ := h1
    have h8 := fun w => V.sizeOf w
    exact ⟨.pointer (some ⟨b, off + i.toNat * sz, none⟩), fun w' L => by simp [execOp, h1, h2, Instr.indexAt, run_underlying T.und, asIntOf, Instr.sureAddr, hi, h8, addr_add], by unfold Reps; exact ⟨b, h0, rfl⟩⟩) hs h
theorem AOPS_index_arr {t e : TypeId} {sz m : Nat} {agg : Bool} {cells : List AV} {k : IntKind} {i : Int} {av : AV} (hx : aev sl x = .agg cells) (hy : aev sl y = .int k i) [T : TyArr P t m e] [V : TyVar P e agg sz] (hi : 0 ≤ i ∧ i < m) (hp : apart agg sz cells (i.toNat * sz) = some av) (hs : aput sl dst av = sl') (h : AOPS P ops r sl' σ Q) : AOPS P ops (⟨dst, .index t x y, ty, pos, after, none⟩ :: r) sl σ Q :=
  AOPS_pure (av := av) rfl (fun M a w hr => by
    have h1 := ev1 hr hx
    have h2 := ev1 hr hy
    unfold Reps at h1 h2
    obtain ⟨vs, h1, h3⟩ := h1
    have h8 := fun w => V.sizeOf w
    obtain ⟨v, h5, h6⟩ := apart_ok V h3 hp
    exact ⟨v, fun w' L => by simp [execOp, h1, h2, Instr.index, run_underlying T.und, asIntOf, hi, h8, h5], h6⟩) hs h
/-- What a variable of so many cells holds. -/
def aload (agg : Bool) (sz : Nat) (cells : List AV) (off : Nat) : Option AV := if agg = true then (if off + sz ≤ cells.length then some (.agg ((cells.drop off).take sz)) else none) else cells[off]?
theorem loadVar_ok {t : TypeId} {agg : Bool} {sz off b o : Nat} {cells : List AV} {vs : List Value} {av : AV} (T : TyVar P t agg sz) (h : RepsL M w cells vs) {L : World → Prop} (hm : ∀ w', L w' → ∀ j u, vs[j]? = some u → w'.cell? ⟨b, o + j, none⟩ = some u) (ha : aload agg sz cells off = some av) : ∃ v, (∀ w', L w' → (loadVar t ⟨b, o + off, none⟩).run P w' = .ok v w') ∧ Reps M w av v := by
  have h1 := fun w => T.isAgg w
  have h2 := fun w => T.sizeOf w
  cases agg with
  | true =>
    simp only [aload, if_true] at ha
    split at ha
    · rename_i hle
      cases ha
      have hl := h.length
      have h3 := fun w' (hL : L w') => run_loadCells_list (P := P) w' ⟨b, o + off, none⟩ ((vs.drop off).take sz) (fun j v hv => by
        rw [addr_add, Nat.add_assoc]
        refine hm w' hL _ _ ?_
        rw [List.getElem?_take] at hv
        split at hv
        · rwa [List.getElem?_drop] at hv
        · cases hv)
      rw [show ((vs.drop off).take sz).length = sz by simp; omega] at h3
      refine ⟨.agg ((vs.drop off).take sz).toArray, fun w' hL => by simp [loadVar, h1, h2, h3 w' hL], ?_⟩
      unfold Reps
      exact ⟨_, rfl, by simpa using (h.drop off).take sz⟩
    · cases ha
  | false =>
    simp only [aload, Bool.false_eq_true, if_false] at ha
    obtain ⟨v, hv, hr⟩ := h.get off av ha
    exact ⟨v, fun w' hL => by simp [loadVar, h1, hm w' hL off v hv], hr⟩
theorem Mem.later {b o : Nat} {vs : List Value} (h : Mem M w b o vs) (L : Later M w w') (j : Nat) (u : Value) (hu : vs[j]? = some u) : w'.cell? ⟨b, o + j, none⟩ = some u := by
  obtain ⟨base, Fi, M', hS⟩ := L
  exact (h.stp hS j u hu).1
theorem AOPS_load_epr {t : TypeId} {agg : Bool} {sz off : Nat} {cells : List AV} {av : AV} (hx : aev sl x = .epr cells off) [T : TyVar P t agg sz] (hp : aload agg sz cells off = some av) (hs : aput sl dst av = sl') (h : AOPS P ops r sl' σ Q) : AOPS P ops (⟨dst, .load t x, ty, pos, after, none⟩ :: r) sl σ Q :=
  AOPS_pure (av := av) rfl (fun M a w hr => by
    have h1 := ev1 hr hx
    unfold Reps at h1
    obtain ⟨b, o, vs, h1, h2, h3⟩ := h1
    obtain ⟨v, h5, h6⟩ := loadVar_ok T h3 (L := Later M w) (fun w' L j u hu => (h2.later L j u hu)) hp
    exact ⟨v, fun w' L => by simp [execOp, h1, Instr.loadAt, Instr.sureAddr, h5 w' L], h6⟩) hs h

/-! ### Slices of slices -/
theorem Reps.cut {own : AOwn} {cells : List AV} {n sz b : Nat} {l h c : Nat} {A : Option Addr} {vs : List Value} (hlh : l ≤ h) (hn : h ≤ n) (hc : n ≤ c) (hm : c ≤ maxLen) (hA : A = none → c = 0) (h6 : n = 0 ∨ ∃ b o, A = some ⟨b, o, none⟩ ∧ Mem M w b o vs) (h7 : RepsL M w cells vs) :
    Reps M w (.sl .none ((cells.drop (l * sz)).take ((h - l) * sz)) (h - l)) (.slice (if c = l then A else A.map (·.add (l * sz))) (h - l) (c - l)) := by
  unfold Reps
  refine ⟨_, _, (vs.drop (l * sz)).take ((h - l) * sz), rfl, by omega, by omega, ?_, ?_, (h7.drop _).take _, ?_, trivial⟩
  · intro e
    split at e
    · have := hA e; omega
    · cases A with
      | none => have := hA rfl; omega
      | some a => simp at e
  · by_cases h0 : h - l = 0
    · exact .inl h0
    · refine .inr ?_
      obtain ⟨b, o, rfl, hmem⟩ := h6.resolve_left (by omega)
      rw [if_neg (by omega)]
      refine ⟨b, o + l * sz, by simp [addr_add], fun j u hu => ?_⟩
      rw [List.getElem?_take] at hu
      split at hu
      · rw [List.getElem?_drop] at hu
        rw [Nat.add_assoc]
        exact hmem _ _ hu
      · cases hu
  · intro h0; simp [h0]
theorem AOPS_slice_lh {t e : TypeId} {sz by_ : Nat} {own : AOwn} {cells : List AV} {n l m : Nat} {k k' : IntKind} {i j : Int} (hx : aev sl x = .sl own cells n) [T : TySl P t e sz by_] (hy : aev sl y = .int k i) (hz : aev sl z = .int k' j) (hl : i = (l : Int)) (hh : j = (m : Int)) (hlm : l ≤ m ∧ m ≤ n) (hs : aput sl dst (.sl .none ((cells.drop (l * sz)).take ((m - l) * sz)) (m - l)) = sl') (h : AOPS P ops r sl' σ Q) : AOPS P ops (⟨dst, .slice t x (some y) (some z) none, ty, pos, after, none⟩ :: r) sl σ Q :=
  AOPS_pure (av := .sl .none ((cells.drop (l * sz)).take ((m - l) * sz)) (m - l)) rfl (fun M a w hr => by
    have h1 := ev1 hr hx
    have h2 := ev1 hr hy
    have h3 := ev1 hr hz
    unfold Reps at h1 h2 h3
    obtain ⟨A, c, vs, h1, h4, h5, h6, h7, h8, h9, _⟩ := h1
    subst hl hh
    have h10 := fun w => T.sizeOf w
    refine ⟨_, fun w' L => ?_, Reps.cut (own := own) (b := 0) hlm.1 hlm.2 h4 h5 h6 h7 h8⟩
    have h11 : l ≤ m := hlm.1
    have h12 : m ≤ c := by omega
    simp [execOp, h1, h2, h3, Instr.sliceAt, Instr.slice, run_underlying T.und, Instr.sliceBounds, Instr.sliceBound, asIntOf, h11, h12, h10]) hs h
theorem AOPS_slice_h {t e : TypeId} {sz by_ : Nat} {own : AOwn} {cells : List AV} {n m : Nat} {k' : IntKind} {j : Int} (hx : aev sl x = .sl own cells n) [T : TySl P t e sz by_] (hz : aev sl z = .int k' j) (hh : j = (m : Int)) (hlm : m ≤ n) (hs : aput sl dst (.sl .none (cells.take (m * sz)) m) = sl') (h : AOPS P ops r sl' σ Q) : AOPS P ops (⟨dst, .slice t x none (some z) none, ty, pos, after, none⟩ :: r) sl σ Q :=
  AOPS_pure (av := .sl .none (cells.take (m * sz)) m) rfl (fun M a w hr => by
    have h1 := ev1 hr hx
    have h3 := ev1 hr hz
    unfold Reps at h1 h3
    obtain ⟨A, c, vs, h1, h4, h5, h6, h7, h8, h9, _⟩ := h1
    subst hh
    have h10 := fun w => T.sizeOf w
    have key := Reps.cut (own := own) (b := 0) (sz := sz) (Nat.zero_le m) hlm h4 h5 h6 h7 h8
    simp only [Nat.zero_mul, List.drop_zero, Nat.sub_zero] at key
    refine ⟨_, fun w' L => ?_, key⟩
    have h12 : m ≤ c := by omega
    have h13 : ¬ c < m := by omega
    simp [execOp, h1, h3, Instr.sliceAt, Instr.slice, run_underlying T.und, Instr.sliceBounds, Instr.sliceBound, asIntOf, h12, h10, h13]) hs h
theorem AOPS_slice_l {t e : TypeId} {sz by_ : Nat} {own : AOwn} {cells : List AV} {n l : Nat} {k : IntKind} {i : Int} (hx : aev sl x = .sl own cells n) [T : TySl P t e sz by_] (hy : aev sl y = .int k i) (hl : i = (l : Int)) (hlm : l ≤ n) (hs : aput sl dst (.sl .none ((cells.drop (l * sz)).take ((n - l) * sz)) (n - l)) = sl') (h : AOPS P ops r sl' σ Q) : AOPS P ops (⟨dst, .slice t x (some y) none none, ty, pos, after, none⟩ :: r) sl σ Q :=
  AOPS_pure (av := .sl .none ((cells.drop (l * sz)).take ((n - l) * sz)) (n - l)) rfl (fun M a w hr => by
    have h1 := ev1 hr hx
    have h2 := ev1 hr hy
    unfold Reps at h1 h2
    obtain ⟨A, c, vs, h1, h4, h5, h6, h7, h8, h9, _⟩ := h1
    subst hl
    have h10 := fun w => T.sizeOf w
    refine ⟨_, fun w' L => ?_, Reps.cut (own := own) (b := 0) hlm (Nat.le_refl n) h4 h5 h6 h7 h8⟩
    have h11 : l ≤ n := by omega
    have h13 : ¬ n < l := by omega
    simp [execOp, h1, h2, Instr.sliceAt, Instr.slice, run_underlying T.und, Instr.sliceBounds, Instr.sliceBound, asIntOf, h11, h10, h13]) hs h

/-! ### Texts -/
def bvA (x : UInt8) : AV := .int .u8 x.toNat
theorem bvA_vals : ∀ {l : List UInt8} {vs : List Value}, RepsL M w (l.map bvA) vs → vs = bvs l
  | [], vs, h => by unfold RepsL at h; exact h
  | x :: l, vs, h => by
    simp only [List.map_cons] at h
    unfold RepsL at h
    obtain ⟨v, vr, rfl, h2, h3⟩ := h
    unfold bvA Reps at h2
    rw [h2, bvA_vals h3]; rfl
theorem bvA_reps : ∀ (l : List UInt8), RepsL M w (l.map bvA) (bvs l)
  | [] => RepsL.nil
  | x :: l => RepsL.cons Reps_int (bvA_reps l)
/-- A slice of bytes, as the contracts so far have it. -/
theorem Reps.rd {own : AOwn} {l : List UInt8} {n : Nat} {v : Value} (h : Reps M w (.sl own (l.map bvA) n) v) (hl : l.length = n) : ∃ A c, v = .slice A n c ∧ Rd w 1 A n c (bvs l) := by
  unfold Reps at h
  obtain ⟨A, c, vs, rfl, h2, h3, h4, h5, h6, h7, _⟩ := h
  obtain rfl := bvA_vals h6
  exact ⟨A, c, rfl, by rw [bvs_length]; omega, h2, h3, h4, h5.imp id fun ⟨b, o, hA, hm⟩ => ⟨b, o, hA, fun j u hu => (hm j u hu).1⟩⟩
theorem Reps.rd_later {own : AOwn} {l : List UInt8} {n : Nat} {v : Value} (h : Reps M w (.sl own (l.map bvA) n) v) (hl : l.length = n) {A : Option Addr} {c : Nat} (he : v = .slice A n c) (L : Later M w w') : Rd w' 1 A n c (bvs l) := by
  obtain ⟨base, Fi, M', hS⟩ := L
  obtain ⟨A', c', h1, h2⟩ := (Reps.stp hS _ _ h).rd hl
  rw [he] at h1
  cases h1
  exact h2
theorem AOPS_string {src t e : TypeId} {sz by_ : Nat} {own : AOwn} {l : List UInt8} {n : Nat} {cells : List AV} (hx : aev sl x = .sl own cells n) [T : TySl P src e sz by_] [B : TyInt P e .u8] [S : TyStr P t] (hb : cells = l.map bvA) (hl : l.length = n) (hs : aput sl dst (.str l) = sl') (h : AOPS P ops r sl' σ Q) : AOPS P ops (⟨dst, .convert src t x, ty, pos, after, none⟩ :: r) sl σ Q :=
  AOPS_pure (av := .str l) rfl (fun M a w hr => by
    have h1 := ev1 hr hx
    rw [hb] at h1
    obtain ⟨A, c, h2, h3⟩ := h1.rd hl
    have h4 := fun w' (L : Later M w w') => run_string_rd (P := P) T.und B.und S.und (h1.rd_later hl h2 L)
    refine ⟨.string ⟨l.toArray⟩, fun w' L => by simp only [execOp, h2, Sem.run_bind, h4 w' L, Result.andThen_ok, Sem.run_pure], ?_⟩
    unfold Reps
    exact ⟨rfl, by have := h3.cap; have := h3.max; omega⟩) hs h
theorem AOPS_string_nils {src t e : TypeId} {sz by_ : Nat} (hx : aev sl x = .nils) [T : TySl P src e sz by_] [B : TyInt P e .u8] [S : TyStr P t] (hs : aput sl dst (.str []) = sl') (h : AOPS P ops r sl' σ Q) : AOPS P ops (⟨dst, .convert src t x, ty, pos, after, none⟩ :: r) sl σ Q :=
  AOPS_pure (av := .str []) rfl (fun M a w hr => by
    have h1 := ev1 hr hx
    unfold Reps at h1
    have h4 := fun w' => run_string_rd (P := P) (w := w') T.und B.und S.und (bs := []) (A := none) (n := 0) (c := 0) ⟨by simp [bvs], Nat.le_refl _, by simp, fun _ => rfl, .inl rfl⟩
    refine ⟨.string ⟨[].toArray⟩, fun w' L => by simp only [execOp, h1, Sem.run_bind, h4, Result.andThen_ok, Sem.run_pure], ?_⟩
    unfold Reps
    exact ⟨rfl, by simp⟩) hs h
theorem eqGuard_str (op : BinOp) (t : TypeId) (b : ByteArray) (v : Value) : eqGuard op t x y (.string b) v = pure () := by cases op <;> rfl
def astr (op : BinOp) (s t : List UInt8) : Option AV :=
  match op with
  | .eql => some (.bool (s == t))
  | .neq => some (.bool (!(s == t)))
  | .lss => some (.bool (Op.bytesLess s t))
  | .leq => some (.bool (Op.bytesLess s t || s == t))
  | .gtr => some (.bool (!(Op.bytesLess s t || s == t)))
  | .geq => some (.bool (!(Op.bytesLess s t)))
  | .add => if s.length + t.length ≤ 1000000000 then some (.str (s ++ t)) else none
  | _ => none
theorem astr_ok {op : BinOp} {s u : List UInt8} {av : AV} (h : astr op s u = some av) (t : TypeId) (M : MM) (w : World) : ∃ v, (∀ w', (binOp op t (.string ⟨s.toArray⟩) (.string ⟨u.toArray⟩)).run P w' = .ok v w') ∧ Reps M w av v := by
  cases op <;> simp only [astr] at h <;> first
    | (cases h; done)
    | (cases h; refine ⟨_, fun w' => ?_, Reps_bool⟩; simp [binOp, Op.stringOp, ba_toList]; done)
    | (split at h
       · rename_i hn
         cases h
         refine ⟨.string (⟨s.toArray⟩ ++ ⟨u.toArray⟩), fun w' => ?_, ?_⟩
         · have h2 : (⟨s.toArray⟩ : ByteArray).size = s.length := by simp [ByteArray.size]
           have h3 : (⟨u.toArray⟩ : ByteArray).size = u.length := by simp [ByteArray.size]
           have := run_string_add_sum (P := P) w' ⟨s.toArray⟩ ⟨u.toArray⟩ (by rw [h2, h3]; omega)
           simpa [binOp] using this
         · unfold Reps
           refine ⟨?_, by simp only [List.length_append, maxLen]; omega⟩
           congr 1
           first | done | (apply ByteArray.ext; first | done | simp)
       · cases h)
theorem AOPS_str {op : BinOp} {t t' : TypeId} {s u : List UInt8} {av : AV} (hx : aev sl x = .str s) (hy : aev sl y = .str u) (ho : astr op s u = some av) (hs : aput sl dst av = sl') (h : AOPS P ops r sl' σ Q) : AOPS P ops (⟨dst, .binOp op t x y t', ty, pos, after, none⟩ :: r) sl σ Q :=
  AOPS_pure (av := av) rfl (fun M a w hr => by
    have h1 := ev1 hr hx
    have h2 := ev1 hr hy
    unfold Reps at h1 h2
    obtain ⟨v, h3, h4⟩ := astr_ok (P := P) ho t M w
    exact ⟨v, fun w' L => by simp [execOp, h1.1, h2.1, h3, eqGuard_str], h4⟩) hs h

/-! ### Interfaces, functions, tuples -/
theorem AOPS_iface {t : TypeId} {av : AV} (hx : aev sl x = av) [T : TyConc P t] (hs : aput sl dst (.iface t av) = sl') (h : AOPS P ops r sl' σ Q) : AOPS P ops (⟨dst, .makeInterface t x, ty, pos, after, none⟩ :: r) sl σ Q :=
  AOPS_pure (av := .iface t av) rfl (fun M a w hr => by
    obtain ⟨d, hd, hni⟩ := T.und
    refine ⟨.iface t (a.eval x), fun w L => ?_, by unfold Reps; exact ⟨_, rfl, ev1 hr hx⟩⟩
    have h2 : (Instr.makeInterface t (a.eval x)).run P w = .ok (.iface t (a.eval x)) w := by
      unfold Instr.makeInterface
      simp only [Sem.run_bind, run_underlying hd, Result.andThen_ok]
      cases d <;> first | exact absurd rfl (hni _) | rfl
    simp [execOp, h2]) hs h
theorem AOPS_assert_yes {t u : TypeId} {av : AV} (hx : aev sl x = .iface t av) [T : TyConc P t] (hs : aput sl dst (.tup [av, .bool true]) = sl') (h : AOPS P ops r sl' σ Q) : AOPS P ops (⟨dst, .typeAssert x u t true, ty, pos, after, none⟩ :: r) sl σ Q :=
  AOPS_pure (av := .tup [av, .bool true]) rfl (fun M a w hr => by
    have h1 := ev1 hr hx
    unfold Reps at h1
    obtain ⟨v, h1, h2⟩ := h1
    obtain ⟨d, hd, hni⟩ := T.und
    have h3 := fun w => run_typeAssert_yes (P := P) hd hni u v w
    exact ⟨.tuple #[v, .bool true], by simp [execOp, h1, h3], by unfold Reps; exact ⟨_, rfl, RepsL.cons h2 (RepsL.one Reps_bool)⟩⟩) hs h
theorem AOPS_extract {cs : List AV} {i : Nat} {av : AV} (hx : aev sl x = .tup cs) (hi : cs[i]? = some av) (hs : aput sl dst av = sl') (h : AOPS P ops r sl' σ Q) : AOPS P ops (⟨dst, .extract x i, ty, pos, after, none⟩ :: r) sl σ Q :=
  AOPS_pure (av := av) rfl (fun M a w hr => by
    have h1 := ev1 hr hx
    unfold Reps at h1
    obtain ⟨vs, h1, h2⟩ := h1
    obtain ⟨v, h3, h4⟩ := h2.get i av hi
    have h5 : vs[i]? = some v := by simpa using h3
    exact ⟨v, fun w' L => by simp [execOp, h1, Instr.extract, h5], h4⟩) hs h
theorem evs {a : Act} (hr : RepsL M w sl a.tmps.toList) : ∀ (l : List Operand), RepsL M w (l.map (aev sl)) (l.map a.eval)
  | [] => RepsL.nil
  | o :: l => RepsL.cons (aev_reps hr o) (evs hr l)
theorem AOPS_makeFunc {f : FuncId} {first captured : List Operand} {cs fs : List AV} (h1 : first.map (aev sl) = fs) (h2 : captured.map (aev sl) = cs) (hs : aput sl dst (.fn f fs cs) = sl') (h : AOPS P ops r sl' σ Q) : AOPS P ops (⟨dst, .makeFunc (.func f) first.toArray captured.toArray, ty, pos, after, none⟩ :: r) sl σ Q :=
  AOPS_pure (av := .fn f fs cs) rfl (fun M a w hr => by
    subst h1 h2
    exact ⟨.func (.func f) (first.map a.eval).toArray (captured.map a.eval).toArray, fun w' L => by simp [execOp, Instr.makeFunc], by unfold Reps; exact ⟨_, _, rfl, evs hr first, evs hr captured⟩⟩) hs h
theorem AOPS_nilCheck {id : Int} {off : Nat} (hx : aev sl x = .ptr id off) (hs : aput sl dst (.ptr id off) = sl') (h : AOPS P ops r sl' σ Q) : AOPS P ops (⟨dst, .nilCheck x, ty, pos, after, none⟩ :: r) sl σ Q :=
  AOPS_pure (av := .ptr id off) rfl (fun M a w hr => by
    have h1 := ev1 hr hx
    have h2 := h1
    unfold Reps at h1
    obtain ⟨b, h0, h1⟩ := h1
    exact ⟨.pointer (some ⟨b, off, none⟩), fun w' L => by simp [execOp, h1], by rw [← h1]; exact h2⟩) hs h
end Go.Proofs.Ytnjkklkjlloedaa
