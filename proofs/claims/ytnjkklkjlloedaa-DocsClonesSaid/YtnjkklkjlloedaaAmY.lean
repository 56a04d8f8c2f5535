/- The abstract machine: what the walks use. -/
import Derived.Test.YtnjkklkjlloedaaAmX
import Derived.Test.YtnjkklkjlloedaaKit
import Derived.Laws.StructEq
import Derived.LoopN
import Derived.Test.YtnjkklkjlloedaaReg
/-! The abstract machine: rules in the form that a script takes; what comes from contracts that were proved before, and what goes back to them. -/
namespace Go.Proofs.Ytnjkklkjlloedaa
open Go.RowKit
set_option linter.unusedVariables false
set_option linter.unusedSimpArgs false

variable {base : Nat} {Fi : Int → Prop} {M M' M'' : MM} {w w' w'' : World}
variable {P : Program} {ops : Array Oper} {r : List Oper} {sl sl' : List AV} {σ σ' : ASt} {Q : Exit → List AV → ASt → Prop}
variable {d : Tmp} {dst : Option Tmp} {ty : TypeId} {pos : String} {after : Array Edge} {x y z : Operand} {gd : Option (Nat × Bool)} {op : Op}

/-- An operand's value, written out. -/
def aevo (sl : List AV) : Operand → Option AV
  | .tmp t => sl[t]?
  | .const (.int k n) => some (.int k n)
  | .const (.bool b) => some (.bool b)
  | .const (.string s) => if s.size ≤ 1000000 then some (.str s.data.toList) else none
  | .const (.pointer none) => some .nilp
  | .const (.slice none 0 0) => some .nils
  | .const .nilIface => some .nili
  | .const (.map none) => some .nilm
  | .func f => some (.fn f [] [])
  | _ => none
theorem aevo_eq {av : AV} (h : aevo sl x = some av) : aev sl x = av := by
  unfold aevo at h
  split at h
  case h_1 t => simp only [aev, List.getD_eq_getElem?_getD, h, Option.getD_some]
  case h_4 s =>
    split at h
    · rename_i hs; cases h; simp only [aev, cav, hs, if_true]
    · cases h
  case h_10 => cases h
  all_goals (cases h; rfl)
theorem S_move {av : AV} (hx : aevo sl x = some av) (hs : aput sl dst av = sl') (h : AOPS P ops r sl' σ Q) : AOPS P ops (⟨dst, .move x, ty, pos, after, none⟩ :: r) sl σ Q := AOPS_move (aevo_eq hx) hs h
theorem S_assign {av : AV} (hx : aevo sl x = some av) (hs : aput sl dst av = sl') (h : AOPS P ops r sl' σ Q) : AOPS P ops (⟨dst, .assign x, ty, pos, after, none⟩ :: r) sl σ Q := AOPS_assign (aevo_eq hx) hs h
theorem S_pick_t {c : Operand} {b : Bool} {av : AV} (hc : aev sl c = .bool b) (hb : b = true) (hx : aevo sl x = some av) (hs : aput sl dst av = sl') (h : AOPS P ops r sl' σ Q) : AOPS P ops (⟨dst, .pick c x y, ty, pos, after, none⟩ :: r) sl σ Q := AOPS_pick_t hc hb (aevo_eq hx) hs h
theorem S_pick_f {c : Operand} {b : Bool} {av : AV} (hc : aev sl c = .bool b) (hb : b = false) (hx : aevo sl y = some av) (hs : aput sl dst av = sl') (h : AOPS P ops r sl' σ Q) : AOPS P ops (⟨dst, .pick c x y, ty, pos, after, none⟩ :: r) sl σ Q := AOPS_pick_f hc hb (aevo_eq hx) hs h
theorem S_iface {t : TypeId} {av : AV} (hx : aevo sl x = some av) [T : TyConc P t] (hs : aput sl dst (.iface t av) = sl') (h : AOPS P ops r sl' σ Q) : AOPS P ops (⟨dst, .makeInterface t x, ty, pos, after, none⟩ :: r) sl σ Q := AOPS_iface (aevo_eq hx) hs h
theorem S_box {t : TypeId} {av : AV} {cells : List AV} {id : Int} (hx : aevo sl x = some av) (hf : av.flat = true) (hc : av.cells = cells) (hid : σ.next = id) (hs : aput sl dst (.ptr id 0) = sl') (h : AOPS P ops r sl' ⟨(id, cells) :: σ.objs, σ.toks, id + 1⟩ Q) : AOPS P ops (⟨dst, .box t x, ty, pos, after, none⟩ :: r) sl σ Q := by subst hc hid; exact AOPS_box (aevo_eq hx) hf hs h
theorem S_load_all {t : TypeId} {sz : Nat} {id : Int} {cells : List AV} (hx : aev sl x = .ptr id 0) [T : TyVar P t true sz] (ho : alook σ.objs id = some cells) (hp : cells.length = sz) (hs : aput sl dst (.agg cells) = sl') (h : AOPS P ops r sl' σ Q) : AOPS P ops (⟨dst, .load t x, ty, pos, after, none⟩ :: r) sl σ Q :=
  AOPS_load hx ho (by simp [aload, ← hp]) hs h
theorem S_load {t : TypeId} {sz off : Nat} {id : Int} {cells : List AV} {av : AV} (hx : aev sl x = .ptr id off) [T : TyVar P t false sz] (ho : alook σ.objs id = some cells) (hp : cells[off]? = some av) (hs : aput sl dst av = sl') (h : AOPS P ops r sl' σ Q) : AOPS P ops (⟨dst, .load t x, ty, pos, after, none⟩ :: r) sl σ Q :=
  AOPS_load hx ho (by simp [aload, hp]) hs h
theorem S_load_epr {t : TypeId} {sz off : Nat} {cells : List AV} {av : AV} (hx : aev sl x = .epr cells off) [T : TyVar P t false sz] (hp : cells[off]? = some av) (hs : aput sl dst av = sl') (h : AOPS P ops r sl' σ Q) : AOPS P ops (⟨dst, .load t x, ty, pos, after, none⟩ :: r) sl σ Q :=
  AOPS_load_epr hx (by simp [aload, hp]) hs h
theorem S_load_epr_agg {t : TypeId} {sz off : Nat} {cells cs : List AV} (hx : aev sl x = .epr cells off) [T : TyVar P t true sz] (hle : off + sz ≤ cells.length) (hp : (cells.drop off).take sz = cs) (hs : aput sl dst (.agg cs) = sl') (h : AOPS P ops r sl' σ Q) : AOPS P ops (⟨dst, .load t x, ty, pos, after, none⟩ :: r) sl σ Q :=
  AOPS_load_epr hx (by simp only [aload, if_true]; rw [if_pos hle, hp]) hs h
/-- A store of a value of one cell. -/
theorem S_store {t : TypeId} {sz off : Nat} {id : Int} {cells cells' : List AV} {av : AV} {objs' : List (Int × List AV)} (hx : aev sl x = .ptr id off) (hy : aevo sl y = some av) [T : TyVar P t false 1] (ho : alook σ.objs id = some cells) (hf : av.one = true) (hle : off < cells.length) (hc : cells.set off av = cells') (hob : aset σ.objs id cells' = objs') (hs : aput sl dst .und = sl') (h : AOPS P ops r sl' ⟨objs', σ.toks, σ.next⟩ Q) : AOPS P ops (⟨dst, .store t x y, ty, pos, after, none⟩ :: r) sl σ Q := by
  have h1 : av.cells = [av] := by cases av <;> first | rfl | (simp [AV.one] at hf)
  have h2 : av.flat = true := by cases av <;> first | exact hf | (simp [AV.one] at hf)
  refine AOPS_store (vs := [av]) hx (aevo_eq hy) ho h1 (by simp [hf]) h2 rfl (by simp; omega) ?_ hs h
  rw [← hob, ← hc]
  congr 1
  simp only [acut, List.length_cons, List.length_nil, Nat.zero_add]
  rw [List.set_eq_take_append_cons_drop, if_pos hle]
  simp
/-- A store of all that there is. -/
theorem S_store_all {t : TypeId} {sz : Nat} {id : Int} {cells vs : List AV} {objs' : List (Int × List AV)} (hx : aev sl x = .ptr id 0) (hy : aev sl y = .agg vs) [T : TyVar P t true sz] (ho : alook σ.objs id = some cells) (hf : vs.all AV.one = true) (hl : vs.length = sz) (hle : cells.length = sz) (hob : aset σ.objs id vs = objs') (hs : aput sl dst .und = sl') (h : AOPS P ops r sl' ⟨objs', σ.toks, σ.next⟩ Q) : AOPS P ops (⟨dst, .store t x y, ty, pos, after, none⟩ :: r) sl σ Q := by
  refine AOPS_store (vs := vs) hx hy ho rfl hf hf hl (by omega) ?_ hs h
  rw [← hob]
  congr 1
  simp only [acut, List.take_zero, List.nil_append, Nat.zero_add]
  rw [List.drop_eq_nil_of_le (by omega), List.append_nil]
theorem S_extract {cs : List AV} {i : Nat} {av : AV} (hx : aev sl x = .tup cs) (hi : cs[i]? = some av) (hs : aput sl dst av = sl') (h : AOPS P ops r sl' σ Q) : AOPS P ops (⟨dst, .extract x i, ty, pos, after, none⟩ :: r) sl σ Q := AOPS_extract hx hi hs h
theorem S_field {t : TypeId} {f off : Nat} {sz : Nat} {cells : List AV} {av : AV} (hx : aev sl x = .agg cells) [T : TyFldS P t f off false sz] (hp : cells[off]? = some av) (hs : aput sl dst av = sl') (h : AOPS P ops r sl' σ Q) : AOPS P ops (⟨dst, .field t x f, ty, pos, after, none⟩ :: r) sl σ Q := AOPS_field hx (by simp [apart, hp]) hs h

/-! ### Sums without overflow -/
theorem S_add {t t' : TypeId} {m n : Int} (hx : aev sl x = .int .i64 m) (hy : aev sl y = .int .i64 n) (hb : -9223372036854775808 ≤ m + n ∧ m + n ≤ 9223372036854775807) (hs : aput sl dst (.int .i64 (m + n)) = sl') (h : AOPS P ops r sl' σ Q) : AOPS P ops (⟨dst, .binOp .add t x y t', ty, pos, after, none⟩ :: r) sl σ Q :=
  AOPS_bin hx hy (show abin .add .i64 m n = some (.int .i64 (m + n)) by simp only [abin]; rw [show IntKind.i64.wrap (m + n) = m + n by rw [IntKind.wrap_i64]; omega]) hs h
theorem S_sub {t t' : TypeId} {m n : Int} (hx : aev sl x = .int .i64 m) (hy : aev sl y = .int .i64 n) (hb : -9223372036854775808 ≤ m - n ∧ m - n ≤ 9223372036854775807) (hs : aput sl dst (.int .i64 (m - n)) = sl') (h : AOPS P ops r sl' σ Q) : AOPS P ops (⟨dst, .binOp .sub t x y t', ty, pos, after, none⟩ :: r) sl σ Q :=
  AOPS_bin hx hy (show abin .sub .i64 m n = some (.int .i64 (m - n)) by simp only [abin]; rw [show IntKind.i64.wrap (m - n) = m - n by rw [IntKind.wrap_i64]; omega]) hs h
theorem S_bin {op : BinOp} {t t' : TypeId} {k : IntKind} {m n : Int} {av : AV} (hx : aev sl x = .int k m) (hy : aev sl y = .int k n) (ho : abin op k m n = some av) (hs : aput sl dst av = sl') (h : AOPS P ops r sl' σ Q) : AOPS P ops (⟨dst, .binOp op t x y t', ty, pos, after, none⟩ :: r) sl σ Q := AOPS_bin hx hy ho hs h

/-! ### Freezing -/
def MM.frz (M : MM) (id : Int) : MM := ⟨M.ob, M.tk, fun i => i = id ∨ M.fz i⟩
def adel {α : Type} : List (Int × α) → Int → List (Int × α)
  | [], _ => []
  | (k, v) :: r, id => if k = id then adel r id else (k, v) :: adel r id
theorem alook_adel {α : Type} : ∀ (l : List (Int × α)) (id i : Int), alook (adel l id) i = if i = id then none else alook l i
  | [], id, i => by simp [adel, alook]
  | (k, v) :: r, id, i => by
    unfold adel
    by_cases hk : k = id
    · rw [if_pos hk, alook_adel r id i]
      by_cases hi : i = id
      · simp [hi]
      · simp only [hi, if_false, alook]
        rw [if_neg (by omega)]
    · rw [if_neg hk]
      simp only [alook]
      rw [alook_adel r id i]
      by_cases hi : i = id
      · subst hi; simp [hk]
      · simp [hi]
theorem frz_stp (S : St base Fi M w σ) {id : Int} {cells : List AV} (ho : alook σ.objs id = some cells) : Stp base Fi M w (M.frz id) w := by
  have hF := (S.obs id cells ho).1
  refine ⟨rfl, rfl, rfl, Nat.le_refl _, fun _ _ => rfl, fun _ _ h => h, fun i T h => ⟨T, h, rfl, .inl rfl⟩, fun b j v hs hc => ⟨hc, fun i h => .inr (hs.1 i h), hs.2⟩, fun _ _ _ _ => rfl, fun i hf hz => ?_, fun _ _ _ _ _ _ _ _ => rfl⟩
  rcases hz with rfl | hz
  · exact absurd hf hF.1
  · exact hz
theorem AOPS_freeze {l : List Oper} {t n sz : Nat} {id : Int} {cells : List AV} {objs' : List (Int × List AV)} (ht : sl[t]? = some (.row id 0 n)) (ho : alook σ.objs id = some cells) (h0 : n = 0 → cells = []) (hob : adel σ.objs id = objs') (hs : sl.set t (.sl .full cells n) = sl') (h : AOPS P ops l sl' ⟨objs', σ.toks, σ.next⟩ Q) : AOPS P ops l sl σ Q := by
  intro base Fi M0 w0 M a w hst hr
  have S := hr.2.2
  have T := frz_stp S ho
  obtain ⟨hF, b, vs, e, h1, h2, h3, h4⟩ := S.obs id cells ho
  obtain ⟨v, hv, hrv⟩ := hr.2.1.get t _ ht
  have hrv' := hrv
  unfold Reps at hrv'
  obtain ⟨b', h5, h6, h7⟩ := hrv'
  rw [h1] at h5; cases h5
  refine h base Fi M0 w0 (M.frz id) a w (hst.trans T) ⟨hr.1, ?_, ?_⟩
  · subst hs
    have h8 : Reps (M.frz id) w (.sl .full cells n) v := by
      unfold Reps
      refine ⟨_, n, vs.toList, h6, Nat.le_refl n, h7, (fun h => by cases h), .inr ⟨b, 0, rfl, fun j u hu => ?_⟩, RepsL.stp T _ _ h4, h0, by unfold OwnOk; rfl⟩
      rw [Nat.zero_add]
      refine ⟨by rw [cell_of_row w _ _ _ _ _ h3]; simpa using hu, fun i hi => .inl (S.inj i id b hi h1), fun i Tk e' ce h9 h10 => absurd h10 (S.dis id i b Tk e' ce h1 h9)⟩
    have h9 := (RepsL.stp T _ _ hr.2.1).set t h8
    have h10 : a.tmps.toList.set t v = a.tmps.toList := by
      apply List.ext_getElem?
      intro i
      rw [List.getElem?_set]
      split
      · rename_i hi; subst hi; rw [hv]; split
        · rfl
        · rename_i hlt; rw [List.getElem?_eq_none (by omega)] at hv; cases hv
      · rfl
    rw [h10] at h9
    exact h9
  · subst hob
    refine ⟨S.base_le, fun i c hl => ?_, S.tks, fun i sh kvs hl => ⟨⟨(S.mps i sh kvs hl).1.1, fun hz => hz.elim (fun e => ?_) (S.mps i sh kvs hl).1.2⟩, (S.mps i sh kvs hl).2.stp T fun _ _ _ g _ => g⟩, S.inj, S.dis, S.tinj, S.obsz, S.tksz, fun i hi => ?_⟩
    · simp only [alook_adel] at hl
      split at hl
      · cases hl
      · rename_i hne
        obtain ⟨g1, b2, us, e2, g2, g3, g4, g5⟩ := S.obs i c hl
        exact ⟨⟨g1.1, fun hz => hz.elim hne g1.2⟩, b2, us, e2, g2, g3, g4, RepsL.stp T _ _ g5⟩
    · obtain ⟨_, b2, o, g2, _, g4, g5⟩ := S.mps i sh kvs hl
      subst e
      rw [h1] at g2; cases g2
      rw [h3] at g4; exact g5.noRow _ _ _ (Option.some.inj g4).symm
    · obtain ⟨g1, g2, g3, g4⟩ := S.fresh i hi
      refine ⟨g1, g2, g3, fun hz => hz.elim (fun e => ?_) g4⟩
      subst e
      rw [g1] at h1; cases h1

/-! ### To and from the contracts that speak of worlds -/
def MM.none : MM := ⟨fun _ => .none, fun _ => .none, fun _ => False⟩
theorem St.none (w : World) (n : Int) : St w.heap.size (fun _ => False) MM.none w ⟨[], [], n⟩ :=
  ⟨Nat.le_refl _, (fun _ _ h => by simp [alook] at h), (fun _ _ h => by simp [alook] at h), (fun _ _ _ h => by simp [alook] at h), (fun _ _ _ h => by cases h), (fun _ _ _ _ _ _ h => by cases h), (fun _ _ _ _ _ _ _ _ _ h => by cases h), (fun _ _ h => by cases h), (fun _ _ _ _ _ h => by cases h), fun _ _ => ⟨rfl, rfl, fun h => h, fun h => h⟩⟩
theorem stab_none (b j : Nat) : stab MM.none b j := ⟨(fun _ h => by cases h), (fun _ _ _ _ h => by cases h)⟩
theorem Stp.below_ {base : Nat} (h : Stp base Fi M w M' w') : Below base w w' := ⟨h.os, h.tape, h.output, h.size, h.below⟩
/-- A law's walk. -/
theorem ACalls.tells {f : FuncId} {args : List AV} {vs : List Value} (h : ACalls P f args ⟨[], [], 0⟩ (fun rv _ => rv = .bool true)) (hr : RepsL MM.none w args vs) : Calls P f vs.toArray w (Tells w true) := by
  refine (h w.heap.size (fun _ => False) MM.none w vs (St.none w 0) hr).mono ?_
  rintro e w' ⟨rv, σ', M', v, rfl, rfl, h3, h4, h5⟩
  unfold Reps at h3
  subst h3
  exact ⟨rfl, h5.below_⟩
theorem Rd.reps {A : Option Addr} {n c : Nat} {l : List UInt8} (h : Rd w 1 A n c (bvs l)) : Reps MM.none w (.sl .none (l.map bvA) n) (.slice A n c) := by
  unfold Reps
  refine ⟨A, c, bvs l, rfl, h.cap, h.max, h.nil, h.cells.imp (fun h => h) fun ⟨b, o, hA, hx⟩ => ⟨b, o, hA, fun j u hu => ⟨hx j u hu, stab_none _ _⟩⟩, bvA_reps l, fun h0 => ?_, trivial⟩
  have := h.len
  rw [bvs_length] at this
  simp [List.eq_nil_of_length_eq_zero (show l.length = 0 by omega)]
/-- What a call of the elder kind gives back: bytes. -/
theorem Seg.retN (S : St base Fi M w σ) (hB : Below w.heap.size w w') {A : Option Addr} {n c : Nat} {l : List UInt8} (h : Seg w' w.heap.size 1 A n c (bvs l)) : Reps M w' (.sl .none (l.map bvA) n) (.slice A n c) := by
  have hl : l.length = n := by have := h.len; rw [bvs_length] at this; omega
  have hle := h.cap
  unfold Reps
  rcases h.form with ⟨rfl, rfl⟩ | ⟨g, o, rfl, hg, hc, hx⟩
  · obtain rfl : n = 0 := by omega
    obtain rfl := List.eq_nil_of_length_eq_zero hl
    exact ⟨_, 0, [], rfl, Nat.le_refl _, by simp, fun _ => rfl, .inl rfl, RepsL.nil, fun _ => rfl, trivial⟩
  · exact ⟨_, c, bvs l, rfl, hle, h.max, (fun h => by cases h), .inr ⟨g, o, rfl, fun j u hu => ⟨hx j u hu, stab_new S hg.1 _⟩⟩, bvA_reps l, fun h0 => by simp [List.eq_nil_of_length_eq_zero (show l.length = 0 by omega)], trivial⟩
end Go.Proofs.Ytnjkklkjlloedaa
/-! The abstract machine: how what is known of types is made; rules that write out what they reckon. -/
namespace Go.Proofs.Ytnjkklkjlloedaa
open Go.RowKit
set_option linter.unusedVariables false
set_option linter.unusedSimpArgs false
section
variable {P : Program} {t e : TypeId}
theorem TyZero.mk' {agg : Bool} {zs : List Value} {z : Value} (h : (P.info? t).map (·.zero) = some (some z)) (hz : z.cells.toList = zs) (ha : (match z with | .agg _ => true | _ => false) = agg) : TyZero P t agg zs := by
  cases hi : P.info? t with
  | none => rw [hi] at h; cases h
  | some i =>
    rw [hi] at h
    simp only [Option.map_some, Option.some.injEq] at h
    refine ⟨i, z, hi, h, hz, ?_⟩
    subst ha
    cases z <;> rfl
theorem TyFldS.mk' {f off sz : Nat} {agg : Bool} {ft : TypeId} (h : P.underlying t = some (.struct (P.fieldsOf t))) (h2 : ((P.fieldsOf t)[f]?).map (fun x => (x.offset, x.type)) = some (off, ft)) (hv : TyVar P ft agg sz) (hp : 0 < sz) : TyFldS P t f off agg sz := ⟨⟨ft, TyFld.mk' h h2, hv⟩, hp⟩
theorem TyPlaces.mk' {pl : List (Nat × Nat)} (h : P.underlying t = some (.struct (P.fieldsOf t))) (h2 : ∀ w : World, ((P.fieldsOf t).mapM fun (f : Field) => (do pure (f.offset, ← sizeOf f.type) : Sem (Nat × Nat))).run P w = .ok pl.toArray w) : TyPlaces P t pl := ⟨_, h, h2⟩
end
variable {base : Nat} {Fi : Int → Prop} {M M' M'' : MM} {w w' w'' : World}
variable {P : Program} {ops : Array Oper} {r : List Oper} {sl sl' : List AV} {σ σ' : ASt} {Q : Exit → List AV → ASt → Prop}
variable {d : Tmp} {dst : Option Tmp} {ty : TypeId} {pos : String} {after : Array Edge} {x y z : Operand} {gd : Option (Nat × Bool)} {op : Op}

/-! ### Reckoned by looking: each list is written out -/
/-- Cells, some of them written. -/
def cutF : List AV → Nat → List AV → Option (List AV)
  | cs, 0, [] => some cs
  | _ :: cs, 0, v :: vs => match cutF cs 0 vs with | some r => some (v :: r) | none => none
  | c :: cs, k + 1, vs => match cutF cs k vs with | some r => some (c :: r) | none => none
  | [], _, _ => none
theorem cutF_ok : ∀ {cs : List AV} {k : Nat} {vs r : List AV}, cutF cs k vs = some r → acut cs k vs = r ∧ k + vs.length ≤ cs.length
  | cs, 0, [], r, h => by simp [cutF] at h; subst h; simp [acut]
  | _ :: cs, 0, v :: vs, r, h => by
    simp only [cutF] at h
    split at h
    · rename_i q hq
      cases h
      obtain ⟨h1, h2⟩ := cutF_ok hq
      simp only [acut, List.take_zero, List.nil_append, Nat.zero_add, List.length_cons, List.cons_append, List.drop_succ_cons] at h1 ⊢
      exact ⟨by rw [h1], by omega⟩
    · cases h
  | c :: cs, k + 1, vs, r, h => by
    simp only [cutF] at h
    split at h
    · rename_i q hq
      cases h
      obtain ⟨h1, h2⟩ := cutF_ok hq
      simp only [acut] at h1 ⊢
      refine ⟨?_, by simp; omega⟩
      rw [← h1, show k + 1 + vs.length = (k + vs.length) + 1 by omega]
      simp
    · cases h
  | [], 0, v :: vs, r, h => by simp [cutF] at h
  | [], k + 1, vs, r, h => by simp [cutF] at h
/-- The first so many. -/
def takeF : Nat → List AV → Option (List AV)
  | 0, _ => some []
  | n + 1, c :: cs => match takeF n cs with | some r => some (c :: r) | none => none
  | _ + 1, [] => none
theorem takeF_ok : ∀ {n : Nat} {cs r : List AV}, takeF n cs = some r → cs.take n = r ∧ n ≤ cs.length
  | 0, cs, r, h => by simp [takeF] at h; subst h; simp
  | n + 1, c :: cs, r, h => by
    simp only [takeF] at h
    split at h
    · rename_i q hq
      cases h
      obtain ⟨h1, h2⟩ := takeF_ok hq
      simp [h1]; omega
    · cases h
  | n + 1, [], r, h => by simp [takeF] at h
def dropF : Nat → List AV → Option (List AV)
  | 0, cs => some cs
  | n + 1, _ :: cs => dropF n cs
  | _ + 1, [] => none
theorem dropF_ok : ∀ {n : Nat} {cs r : List AV}, dropF n cs = some r → cs.drop n = r ∧ n ≤ cs.length
  | 0, cs, r, h => by simp [dropF] at h; subst h; simp
  | n + 1, _ :: cs, r, h => by
    simp only [dropF] at h
    obtain ⟨h1, h2⟩ := dropF_ok h
    simp [h1]; omega
  | n + 1, [], r, h => by simp [dropF] at h
def subF (off sz : Nat) (cs : List AV) : Option (List AV) := match dropF off cs with | some r => takeF sz r | none => none
theorem subF_ok {off sz : Nat} {cs r : List AV} (h : subF off sz cs = some r) : (cs.drop off).take sz = r ∧ off + sz ≤ cs.length := by
  unfold subF at h
  split at h
  · rename_i q hq
    obtain ⟨h1, h2⟩ := dropF_ok hq
    obtain ⟨h3, h4⟩ := takeF_ok h
    rw [h1]
    refine ⟨h3, ?_⟩
    rw [← h1, List.length_drop] at h4; omega
  · cases h
def fillF (sl : List AV) (place : Nat → Option (Nat × Nat)) : List AV → List (Nat × Operand) → Option (List AV)
  | cells, [] => some cells
  | cells, (i, x) :: rest =>
    match place i with
    | none => none
    | some (off, size) => match aevo sl x with
      | none => none
      | some v => if v.flat = true ∧ v.cells.length = size then (match cutF cells off v.cells with | some c => fillF sl place c rest | none => none) else none
theorem fillF_ok {sl : List AV} {place : Nat → Option (Nat × Nat)} : ∀ {ps : List (Nat × Operand)} {cells r : List AV}, fillF sl place cells ps = some r → afill place cells (aparts sl ps) = some r
  | [], cells, r, h => h
  | (i, x) :: rest, cells, r, h => by
    simp only [fillF] at h
    split at h
    · cases h
    · rename_i off size hp
      split at h
      · cases h
      · rename_i v hv
        split at h
        · rename_i hc
          split at h
          · rename_i c hcut
            obtain ⟨h1, h2⟩ := cutF_ok hcut
            have h3 := fillF_ok h
            simp only [aparts, List.map_cons, afill, hp, aevo_eq hv]
            rw [if_pos ⟨hc.1, hc.2, h2⟩, h1]
            exact h3
          · cases h
        · cases h
def zerosF (zs : List Value) : Nat → List AV
  | 0 => []
  | n + 1 => zs.map cav ++ zerosF zs n
/-- Elements of one cell each, in their order. -/
def litF (sl : List AV) : Nat → List (Nat × Operand) → Option (List AV)
  | _, [] => some []
  | k, (i, x) :: rest => if i = k then (match aevo sl x with
    | some v => match litF sl (k + 1) rest with | some r => some (v :: r) | none => none
    | none => none) else none
theorem litF_fill {sl : List AV} : ∀ {ps : List (Nat × Operand)} {k : Nat} {vs cells : List AV}, litF sl k ps = some vs → vs.all AV.one = true → k + vs.length ≤ cells.length → afill (fun i => some (i * 1, 1)) cells (aparts sl ps) = some (acut cells k vs)
  | [], k, vs, cells, h, _, _ => by simp [litF] at h; subst h; simp [aparts, afill, acut]
  | (i, x) :: rest, k, vs, cells, h, ho, hl => by
    simp only [litF] at h
    split at h
    · rename_i hi
      subst hi
      split at h
      · rename_i v hv
        split at h
        · rename_i q hq
          cases h
          simp only [List.all_cons, Bool.and_eq_true] at ho
          simp only [List.length_cons] at hl
          have h1 : v.cells = [v] := by cases v <;> first | rfl | (simp [AV.one] at ho)
          have h2 : v.flat = true := by cases v <;> first | exact ho.1 | (simp [AV.one] at ho)
          have hlen : (acut cells i [v]).length = cells.length := by simp [acut]; omega
          have h3 := litF_fill (cells := acut cells i [v]) hq ho.2 (by rw [hlen]; omega)
          simp only [aparts, List.map_cons, afill, aevo_eq hv, Nat.mul_one]
          rw [if_pos ⟨h2, by rw [h1]; rfl, by rw [h1]; simp; omega⟩, h1]
          have h3' : afill (fun i => some (i, 1)) (acut cells i [v]) (rest.map fun p => (p.1, aev sl p.2)) = some (acut (acut cells i [v]) (i + 1) q) := by simpa only [Nat.mul_one, aparts] using h3
          rw [h3']
          congr 1
          simp only [acut, List.length_cons, List.length_nil, Nat.zero_add]
          have e1 : (cells.take i ++ [v] ++ cells.drop (i + 1)).take (i + 1) = cells.take i ++ [v] := by
            rw [List.take_append_of_le_length (by simp; omega), List.take_of_length_le (by simp; omega)]
          have e2 : (cells.take i ++ [v] ++ cells.drop (i + 1)).drop (i + 1 + q.length) = cells.drop (i + (q.length + 1)) := by
            rw [List.drop_append, List.drop_eq_nil_of_le (by simp; omega), List.nil_append, List.drop_drop]
            congr 1
            simp; omega
          rw [e1, e2]
          simp
        · cases h
      · cases h
    · cases h
theorem S_lit {t e : TypeId} {by_ : Nat} {agg : Bool} {zs : List Value} [T : TySl P t e 1 by_] [Z : TyZero P e agg zs] {len : Nat} {ps : List (Nat × Operand)} {cells : List AV} (hp : litF sl 0 ps = some cells) (ho : cells.all AV.one = true) (hl : cells.length = len) (hzl : zs.length = 1) (hb : len ≤ 16777216) (hs : aput sl dst (.sl .full cells len) = sl') (h : AOPS P ops r sl' σ Q) : AOPS P ops (⟨dst, .buildSlice t len ps.toArray, ty, pos, after, none⟩ :: r) sl σ Q := by
  refine AOPS_buildSlice (sz := 1) rfl (cells := cells) ?_ hzl ⟨by omega, fun h0 => List.eq_nil_of_length_eq_zero (by omega)⟩ hs h
  have h1 := litF_fill (cells := azeros zs (len * 1)) hp ho (by simp [azeros]; omega)
  rw [h1]
  congr 1
  simp only [acut, List.take_zero, List.nil_append, Nat.zero_add]
  rw [List.drop_eq_nil_of_le (by simp [azeros]; omega), List.append_nil]
theorem S_build {t : TypeId} {agg : Bool} {zs : List Value} {pl : List (Nat × Nat)} {ps : List (Nat × Operand)} {cells zc : List AV} [T : TyPlaces P t pl] [Z : TyZero P t agg zs] (hz : zerosF zs 1 = zc) (hf : fillF sl (fun i => pl[i]?) zc ps = some cells) (hs : aput sl dst (.agg cells) = sl') (h : AOPS P ops r sl' σ Q) : AOPS P ops (⟨dst, .build t ps.toArray, ty, pos, after, none⟩ :: r) sl σ Q := by
  refine AOPS_build rfl (cells := cells) (fillF_ok ?_) hs h
  rw [← hf, ← hz]
  simp [zerosF]
theorem S_load_agg {t : TypeId} {sz off : Nat} {id : Int} {cells cs : List AV} (hx : aev sl x = .ptr id off) [T : TyVar P t true sz] (ho : alook σ.objs id = some cells) (hp : subF off sz cells = some cs) (hs : aput sl dst (.agg cs) = sl') (h : AOPS P ops r sl' σ Q) : AOPS P ops (⟨dst, .load t x, ty, pos, after, none⟩ :: r) sl σ Q := by
  obtain ⟨h1, h2⟩ := subF_ok hp
  exact AOPS_load hx ho (by simp only [aload, if_true]; rw [if_pos h2, h1]) hs h
theorem S_load_epr_sub {t : TypeId} {sz off : Nat} {cells cs : List AV} (hx : aev sl x = .epr cells off) [T : TyVar P t true sz] (hp : subF off sz cells = some cs) (hs : aput sl dst (.agg cs) = sl') (h : AOPS P ops r sl' σ Q) : AOPS P ops (⟨dst, .load t x, ty, pos, after, none⟩ :: r) sl σ Q := by
  obtain ⟨h1, h2⟩ := subF_ok hp
  exact AOPS_load_epr hx (by simp only [aload, if_true]; rw [if_pos h2, h1]) hs h
theorem S_quo {t t' : TypeId} {m n : Int} (hx : aev sl x = .int .i64 m) (hy : aev sl y = .int .i64 n) (hb : 0 ≤ m ∧ m ≤ 9223372036854775807 ∧ 0 < n) (hs : aput sl dst (.int .i64 (m / n)) = sl') (h : AOPS P ops r sl' σ Q) : AOPS P ops (⟨dst, .binOp .quo t x y t', ty, pos, after, none⟩ :: r) sl σ Q :=
  AOPS_bin hx hy (show abin .quo .i64 m n = some (.int .i64 (m / n)) by
    simp only [abin]
    rw [if_neg (by omega), Int.tdiv_eq_ediv_of_nonneg hb.1, show IntKind.i64.wrap (m / n) = m / n by
      rw [IntKind.wrap_i64]
      have h1 : 0 ≤ m / n := Int.ediv_nonneg hb.1 (by omega)
      have h2 : m / n ≤ m := Int.ediv_le_self n hb.1
      omega]) hs h
theorem S_rem {t t' : TypeId} {m n : Int} (hx : aev sl x = .int .i64 m) (hy : aev sl y = .int .i64 n) (hb : 0 ≤ m ∧ 0 < n) (hs : aput sl dst (.int .i64 (m % n)) = sl') (h : AOPS P ops r sl' σ Q) : AOPS P ops (⟨dst, .binOp .rem t x y t', ty, pos, after, none⟩ :: r) sl σ Q :=
  AOPS_bin hx hy (show abin .rem .i64 m n = some (.int .i64 (m % n)) by
    simp only [abin]
    rw [if_neg (by omega), Int.tmod_eq_emod_of_nonneg hb.1]) hs h
theorem S_conv_same {src t : TypeId} {n : Int} (hx : aev sl x = .int .i64 n) [T : TyInt P t .i64] [T0 : TyInt P src .i64] (hb : -9223372036854775808 ≤ n ∧ n ≤ 9223372036854775807) (hs : aput sl dst (.int .i64 n) = sl') (h : AOPS P ops r sl' σ Q) : AOPS P ops (⟨dst, .convert src t x, ty, pos, after, none⟩ :: r) sl σ Q :=
  AOPS_conv hx (by rw [show IntKind.i64.wrap n = n by rw [IntKind.wrap_i64]; omega]; exact hs) h
/-- A byte to a number. -/
theorem S_conv_u8 {src t : TypeId} {b : UInt8} (hx : aev sl x = bvA b) [T : TyInt P t .i64] [T0 : TyInt P src .u8] (hs : aput sl dst (.int .i64 (b.toNat : Int)) = sl') (h : AOPS P ops r sl' σ Q) : AOPS P ops (⟨dst, .convert src t x, ty, pos, after, none⟩ :: r) sl σ Q :=
  AOPS_conv (k := .u8) (n := b.toNat) hx (by rw [show IntKind.i64.wrap (b.toNat : Int) = b.toNat by rw [IntKind.wrap_i64]; have := b.toNat_lt; omega]; exact hs) h
/-- A number's byte. -/
theorem wrap_u8 (z : Int) : IntKind.u8.wrap z = (((UInt8.ofNat (z % 256).toNat).toNat : Nat) : Int) := by
  rw [IntKind.wrap_u8]
  have h1 : 0 ≤ z % 256 := Int.emod_nonneg _ (by decide)
  have h2 : z % 256 < 256 := Int.emod_lt_of_pos _ (by decide)
  simp
  omega
theorem S_conv_byte {src t : TypeId} {n : Int} {k : IntKind} (hx : aev sl x = .int k n) [T : TyInt P t .u8] [T0 : TyInt P src k] (hs : aput sl dst (bvA (UInt8.ofNat (n % 256).toNat)) = sl') (h : AOPS P ops r sl' σ Q) : AOPS P ops (⟨dst, .convert src t x, ty, pos, after, none⟩ :: r) sl σ Q :=
  AOPS_conv hx (by rw [wrap_u8]; exact hs) h
end Go.Proofs.Ytnjkklkjlloedaa
/-! The abstract machine: calls that leave the store as it was. -/
namespace Go.Proofs.Ytnjkklkjlloedaa
open Go.RowKit
set_option linter.unusedVariables false
set_option linter.unusedSimpArgs false
variable {base : Nat} {Fi : Int → Prop} {M M' M'' : MM} {w w' w'' : World}
variable {P : Program} {ops : Array Oper} {r : List Oper} {sl sl' : List AV} {σ σ' : ASt} {Q : Exit → List AV → ASt → Prop}
variable {d : Tmp} {dst : Option Tmp} {ty : TypeId} {pos : String} {after : Array Edge} {x y z : Operand} {gd : Option (Nat × Bool)} {op : Op}

mutual
/-- The same, its buffers forgotten. -/
def AV.fg : AV → AV
  | .sl (.tok _ _ _) cells n => .sl .none (AV.fgL cells) n
  | .sl own cells n => .sl own (AV.fgL cells) n
  | .epr cells n => .epr (AV.fgL cells) n
  | .fn f a b => .fn f (AV.fgL a) (AV.fgL b)
  | .iface t a => .iface t a.fg
  | .agg cs => .agg (AV.fgL cs)
  | .tup cs => .tup (AV.fgL cs)
  | .any => .any
  | .und => .und
  | .int k n => .int k n
  | .bool b => .bool b
  | .str s => .str s
  | .nilp => .nilp
  | .ptr i o => .ptr i o
  | .nils => .nils
  | .row i o n => .row i o n
  | .buf i o n c => .buf i o n c
  | .nilm => .nilm
  | .map i => .map i
  | .nili => .nili
def AV.fgL : List AV → List AV
  | [] => []
  | a :: r => a.fg :: AV.fgL r
end
theorem AV.fgL_length : ∀ l : List AV, (AV.fgL l).length = l.length
  | [] => rfl
  | a :: r => by simp [AV.fgL, AV.fgL_length r]
mutual
theorem Reps.fg : ∀ (a : AV) (v : Value), Reps M w a v → Reps M w a.fg v
  | .sl own cells n, v, h => by
    cases own <;> (unfold AV.fg; unfold Reps at h ⊢; obtain ⟨A, c, vs, h1, h2, h3, h4, h5, h6, h7, h8⟩ := h)
    · exact ⟨A, c, vs, h1, h2, h3, h4, h5, RepsL.fg cells vs h6, fun h0 => by rw [h7 h0]; rfl, trivial⟩
    · exact ⟨A, c, vs, h1, h2, h3, h4, h5, RepsL.fg cells vs h6, fun h0 => by rw [h7 h0]; rfl, h8⟩
    · exact ⟨A, c, vs, h1, h2, h3, h4, h5, RepsL.fg cells vs h6, fun h0 => by rw [h7 h0]; rfl, trivial⟩
  | .epr cells n, v, h => by
    unfold AV.fg; unfold Reps at h ⊢
    obtain ⟨b, o, vs, h1, h2, h3⟩ := h
    exact ⟨b, o, vs, h1, h2, RepsL.fg cells vs h3⟩
  | .fn f a b, v, h => by
    unfold AV.fg; unfold Reps at h ⊢
    obtain ⟨fs, cs, h1, h2, h3⟩ := h
    exact ⟨fs, cs, h1, RepsL.fg a _ h2, RepsL.fg b _ h3⟩
  | .iface t a, v, h => by
    unfold AV.fg; unfold Reps at h ⊢
    obtain ⟨u, h1, h2⟩ := h
    exact ⟨u, h1, Reps.fg a u h2⟩
  | .agg cs, v, h => by
    unfold AV.fg; unfold Reps at h ⊢
    obtain ⟨vs, h1, h2⟩ := h
    exact ⟨vs, h1, RepsL.fg cs _ h2⟩
  | .tup cs, v, h => by
    unfold AV.fg; unfold Reps at h ⊢
    obtain ⟨vs, h1, h2⟩ := h
    exact ⟨vs, h1, RepsL.fg cs _ h2⟩
  | .any, v, h => by unfold AV.fg; exact h
  | .und, v, h => by unfold AV.fg; exact h
  | .int _ _, v, h => by unfold AV.fg; exact h
  | .bool _, v, h => by unfold AV.fg; exact h
  | .str _, v, h => by unfold AV.fg; exact h
  | .nilp, v, h => by unfold AV.fg; exact h
  | .ptr _ _, v, h => by unfold AV.fg; exact h
  | .nils, v, h => by unfold AV.fg; exact h
  | .row _ _ _, v, h => by unfold AV.fg; exact h
  | .buf _ _ _ _, v, h => by unfold AV.fg; exact h
  | .nilm, v, h => by unfold AV.fg; exact h
  | .map _, v, h => by unfold AV.fg; exact h
  | .nili, v, h => by unfold AV.fg; exact h
theorem RepsL.fg : ∀ (l : List AV) (vs : List Value), RepsL M w l vs → RepsL M w (AV.fgL l) vs
  | [], vs, h => by unfold AV.fgL; exact h
  | a :: r, vs, h => by
    unfold AV.fgL; unfold RepsL at h ⊢
    obtain ⟨v, vr, h1, h2, h3⟩ := h
    exact ⟨v, vr, h1, Reps.fg a v h2, RepsL.fg r vr h3⟩
end

/-- Cells that never turn stay such where less is written. -/
def Less (M' M : MM) : Prop := ∀ b j, stab M' b j → stab M b j
mutual
theorem Reps.less (h : Less M' M) : ∀ (a : AV) (v : Value), a.shut = true → Reps M' w a v → Reps M w a v
  | .sl own cells n, v, hs, hr => by
    cases own with
    | tok => simp [AV.shut] at hs
    | none =>
      unfold Reps at hr ⊢
      obtain ⟨A, c, vs, h1, h2, h3, h4, h5, h6, h7, h8⟩ := hr
      exact ⟨A, c, vs, h1, h2, h3, h4, h5.imp (fun h => h) fun ⟨b, o, hA, hm⟩ => ⟨b, o, hA, fun j u hu => ⟨(hm j u hu).1, h _ _ (hm j u hu).2⟩⟩, RepsL.less h cells vs (by simpa [AV.shut] using hs) h6, h7, trivial⟩
    | full =>
      unfold Reps at hr ⊢
      obtain ⟨A, c, vs, h1, h2, h3, h4, h5, h6, h7, h8⟩ := hr
      exact ⟨A, c, vs, h1, h2, h3, h4, h5.imp (fun h => h) fun ⟨b, o, hA, hm⟩ => ⟨b, o, hA, fun j u hu => ⟨(hm j u hu).1, h _ _ (hm j u hu).2⟩⟩, RepsL.less h cells vs (by simpa [AV.shut] using hs) h6, h7, h8⟩
  | .epr cells n, v, hs, hr => by
    unfold Reps at hr ⊢
    obtain ⟨b, o, vs, h1, h2, h3⟩ := hr
    exact ⟨b, o, vs, h1, fun j u hu => ⟨(h2 j u hu).1, h _ _ (h2 j u hu).2⟩, RepsL.less h cells vs (by simpa [AV.shut] using hs) h3⟩
  | .fn f a b, v, hs, hr => by
    simp only [AV.shut, Bool.and_eq_true] at hs
    unfold Reps at hr ⊢
    obtain ⟨fs, cs, h1, h2, h3⟩ := hr
    exact ⟨fs, cs, h1, RepsL.less h a _ hs.1 h2, RepsL.less h b _ hs.2 h3⟩
  | .iface t a, v, hs, hr => by
    unfold Reps at hr ⊢
    obtain ⟨u, h1, h2⟩ := hr
    exact ⟨u, h1, Reps.less h a u (by simpa [AV.shut] using hs) h2⟩
  | .agg cs, v, hs, hr => by
    unfold Reps at hr ⊢
    obtain ⟨vs, h1, h2⟩ := hr
    exact ⟨vs, h1, RepsL.less h cs _ (by simpa [AV.shut] using hs) h2⟩
  | .tup cs, v, hs, hr => by
    unfold Reps at hr ⊢
    obtain ⟨vs, h1, h2⟩ := hr
    exact ⟨vs, h1, RepsL.less h cs _ (by simpa [AV.shut] using hs) h2⟩
  | .ptr _ _, v, hs, hr => by simp [AV.shut] at hs
  | .row _ _ _, v, hs, hr => by simp [AV.shut] at hs
  | .buf _ _ _ _, v, hs, hr => by simp [AV.shut] at hs
  | .map _, v, hs, hr => by simp [AV.shut] at hs
  | .any, v, _, hr => by unfold Reps at hr ⊢; exact hr
  | .und, v, _, hr => by unfold Reps at hr ⊢; exact hr
  | .int _ _, v, _, hr => by unfold Reps at hr ⊢; exact hr
  | .bool _, v, _, hr => by unfold Reps at hr ⊢; exact hr
  | .str _, v, _, hr => by unfold Reps at hr ⊢; exact hr
  | .nilp, v, _, hr => by unfold Reps at hr ⊢; exact hr
  | .nils, v, _, hr => by unfold Reps at hr ⊢; exact hr
  | .nilm, v, _, hr => by unfold Reps at hr ⊢; exact hr
  | .nili, v, _, hr => by unfold Reps at hr ⊢; exact hr
theorem RepsL.less (h : Less M' M) : ∀ (l : List AV) (vs : List Value), AV.shutL l = true → RepsL M' w l vs → RepsL M w l vs
  | [], vs, _, hr => by unfold RepsL at hr ⊢; exact hr
  | a :: r, vs, hs, hr => by
    simp only [AV.shutL, Bool.and_eq_true] at hs
    unfold RepsL at hr ⊢
    obtain ⟨v, vr, h1, h2, h3⟩ := hr
    exact ⟨v, vr, h1, Reps.less h a v hs.1 h2, RepsL.less h r vr hs.2 h3⟩
end

/-- The same objects, under other numbers. -/
def MM.sh (M : MM) (n : Int) : MM := ⟨fun i => M.ob (i + n), fun i => M.tk (i + n), fun i => M.fz (i + n)⟩
theorem sh_ob (M : MM) (n i : Int) : (M.sh n).ob (i - n) = M.ob i := by simp [MM.sh]
theorem sh_tk (M : MM) (n i : Int) : (M.sh n).tk (i - n) = M.tk i := by simp [MM.sh]
theorem sh_fz (M : MM) (n i : Int) : (M.sh n).fz (i - n) = M.fz i := by simp [MM.sh]
/-- Behind a call that saw nothing of the store: all that was there is as it was. -/
theorem seen_none {f : FuncId} {args : List AV} {vs : List Value} {K : AV → ASt → Prop} (h : ACalls P f args ⟨[], [], 0⟩ K) (hsh : AV.shutL args = true) (S : St base Fi M w σ) (hr : RepsL M w args vs) : Calls P f vs.toArray w (fun e w' => ∃ r σ' M' v, K r σ' ∧ e = .returned v ∧ Reps M' w' r v ∧ St base (fun id => id < 0) M' w' σ' ∧ Stp base Fi M w M w' ∧ St base Fi M w' σ ∧ Less M' M ∧ Stp base (fun id => id < 0) (M.sh σ.next) w M' w') := by
  have lt : ∀ id b, M.ob id = some b → id < σ.next := fun id b hb => Int.lt_of_not_ge fun hle => by rw [(S.fresh id hle).1] at hb; cases hb
  have ltk : ∀ id T, M.tk id = some T → id < σ.next := fun id T hb => Int.lt_of_not_ge fun hle => by rw [(S.fresh id hle).2.1] at hb; cases hb
  have S' : St base (fun id => id < 0) (M.sh σ.next) w ⟨[], [], 0⟩ := by
    refine ⟨S.base_le, (fun id c hl => by simp [alook] at hl), (fun id t hl => by simp [alook] at hl), (fun id sh kvs hl => by simp [alook] at hl), fun i i' b h1 h2 => ?_, fun i i' b T e ce h1 h2 => S.dis _ _ b T e ce h1 h2, fun i i' T T' b e ce e' ce' h1 h2 h3 h4 => ?_, fun i b h1 => S.obsz _ b h1, fun i T b e ce h1 h2 => S.tksz _ T b e ce h1 h2, fun id hid => ?_⟩
    · have := S.inj _ _ b h1 h2; omega
    · have := S.tinj _ _ T T' b e ce e' ce' h1 h2 h3 h4; omega
    · have hid' : (0 : Int) ≤ id := hid
      obtain ⟨h1, h2, h3, h4⟩ := S.fresh (id + σ.next) (by omega)
      exact ⟨h1, h2, by show ¬ id < 0; omega, h4⟩
  have hL0 : Less M (M.sh σ.next) := fun b j hs => ⟨fun id hb => hs.1 _ hb, fun id T e ce h1 h2 => hs.2 _ T e ce h1 h2⟩
  refine (h base _ (M.sh σ.next) w vs S' (RepsL.less hL0 _ _ hsh hr)).mono ?_
  rintro e w' ⟨rv, σ2, M', v, hk, he, hv, S2, T⟩
  have fob : ∀ id b, M.ob id = some b → w'.heap[b]? = w.heap[b]? := fun id b hb => T.fob (id - σ.next) b (by have := lt id b hb; show id - σ.next < 0; omega) (by rw [sh_ob]; exact hb)
  have ftk : ∀ id T0 b e ce, M.tk id = some T0 → T0.blk = some (b, e, ce) → w'.heap[b]? = w.heap[b]? := fun id T0 b e ce h1 h2 => T.ftk (id - σ.next) T0 b e ce (by have := ltk id T0 h1; show id - σ.next < 0; omega) (by rw [sh_tk]; exact h1) h2
  have hL1 : ∀ b j, stab M b j → stab (M.sh σ.next) b j := hL0
  have tsame : ∀ id T0, M.tk id = some T0 → M'.tk (id - σ.next) = some T0 := by
    intro id T0 h0
    obtain ⟨T1, h1, _, h3⟩ := T.tk (id - σ.next) T0 (by rw [sh_tk]; exact h0)
    rcases h3 with rfl | ⟨_, h3⟩
    · exact h1
    · exact absurd (show id - σ.next < 0 by have := ltk id T0 h0; omega) h3
  have TM : Stp base Fi M w M w' := ⟨T.os, T.tape, T.output, T.size, T.below, fun _ _ h => h, fun id T0 h0 => ⟨T0, h0, rfl, .inl rfl⟩, fun b j v hs hc => ⟨(T.cell b j v (hL1 b j hs) hc).1, hs⟩, fun id b _ hb => fob id b hb, fun _ _ h => h, fun id T0 b e' ce _ h1 h2 => ftk id T0 b e' ce h1 h2⟩
  refine ⟨rv, σ2, M', v, hk, he, hv, S2, TM, ?_, ?_, T⟩
  · refine ⟨Nat.le_trans S.base_le T.size, fun id c hl => ?_, fun id t hl => ?_, fun id sh kvs hl => ⟨(S.mps id sh kvs hl).1, (S.mps id sh kvs hl).2.stp TM fun b o g1 g2 _ => by rw [fob id b g1]; exact g2⟩, S.inj, S.dis, S.tinj, fun id b hb => Nat.lt_of_lt_of_le (S.obsz id b hb) T.size, fun id T0 b e' ce h1 h2 => Nat.lt_of_lt_of_le (S.tksz id T0 b e' ce h1 h2) T.size, S.fresh⟩
    · obtain ⟨h1, b, us, e', h2, h3, h4, h5⟩ := S.obs id c hl
      exact ⟨h1, b, us, e', h2, h3, by rw [fob id b h2]; exact h4, RepsL.stp TM _ _ h5⟩
    · obtain ⟨h1, T0, h2, h3, h4⟩ := S.tks id t hl
      refine ⟨h1, T0, h2, h3, fun b e' ce hb => ?_⟩
      obtain ⟨h5, h6⟩ := h4 b e' ce hb
      have hB := ftk id T0 b e' ce h2 hb
      exact ⟨h5, h6.heap hB⟩
  · intro b j hs
    refine ⟨fun id hb => ?_, fun id T0 e' ce h1 h2 => hs.2 (id - σ.next) T0 e' ce (tsame id T0 h1) h2⟩
    have h1 := T.ob (id - σ.next) b (by rw [sh_ob]; exact hb)
    have h2 := T.ffz (id - σ.next) (show id - σ.next < 0 by have := lt id b hb; omega) (hs.1 _ h1)
    rwa [sh_fz] at h2

/-- A function that yields just a value. -/
def AVal (P : Program) (f : FuncId) (args : List AV) (R : AV) : Prop := ∀ σ, ACalls P f args σ (fun rv σ' => rv = R ∧ σ' = σ)
theorem AVal.mk {f : FuncId} {args : List AV} {R : AV} (hA : AV.shutL args = true) (hR : R.shut = true) (h : ACalls P f args ⟨[], [], 0⟩ (fun rv _ => rv.fg = R)) : AVal P f args R := by
  intro σ base Fi M w vs S hr
  refine (seen_none h hA S hr).mono ?_
  rintro e w' ⟨rv, σ2, M', v, hk, he, hv, S2, TM, S3, hL, _⟩
  refine ⟨R, σ, M, v, ⟨rfl, rfl⟩, he, Reps.less hL R v hR (hk ▸ Reps.fg rv v hv), S3, TM⟩
/-- A function that yields a slice that one may append to. -/
def ATok (P : Program) (f : FuncId) (args : List AV) (top sz : Nat) (cells : List AV) (n : Nat) : Prop := ∀ σ, ACalls P f args σ (fun rv σ' => rv = .sl (.tok σ.next top sz) cells n ∧ σ' = ⟨σ.objs, (σ.next, .top top) :: σ.toks, σ.next + 1⟩)
theorem ATok.mk {f : FuncId} {args : List AV} {top sz n : Nat} {cells : List AV} (hA : AV.shutL args = true) (hR : AV.shutL cells = true) (h : ACalls P f args ⟨[], [], 0⟩ (fun rv σ' => ∃ id, rv = .sl (.tok id top sz) cells n ∧ alook σ'.toks id = some (.top top))) : ATok P f args top sz cells n := by
  intro σ base Fi M w vs S hr
  refine (seen_none h hA S hr).mono ?_
  rintro e w' ⟨rv, σ2, M', v, ⟨id, rfl, hid⟩, he, hv, S2, TM, S3, hL, T⟩
  obtain ⟨hF, T0, h1, h2, h3⟩ := S2.tks id top hid
  have hbl : ∀ b e' ce, T0.blk = some (b, e', ce) → base ≤ b ∧ b < w'.heap.size := fun b e' ce hb => ⟨(h3 b e' ce hb).1, S2.tksz id T0 b e' ce h1 hb⟩
  have lt : ∀ i b, M.ob i = some b → i < σ.next := fun i b hb => Int.lt_of_not_ge fun hle => by rw [(S.fresh i hle).1] at hb; cases hb
  have ltk : ∀ i T, M.tk i = some T → i < σ.next := fun i T hb => Int.lt_of_not_ge fun hle => by rw [(S.fresh i hle).2.1] at hb; cases hb
  have tsame : ∀ i T1, M.tk i = some T1 → M'.tk (i - σ.next) = some T1 := by
    intro i T1 h0
    obtain ⟨T2, h1, _, h3⟩ := T.tk (i - σ.next) T1 (by rw [sh_tk]; exact h0)
    rcases h3 with rfl | ⟨_, h3⟩
    · exact h1
    · exact absurd (show i - σ.next < 0 by have := ltk i T1 h0; omega) h3
  have hidn : 0 ≤ id := Int.not_lt.1 fun hlt => hF hlt
  have hne : ∀ i T1, M.tk i = some T1 → ∀ b e' ce e2 ce2, T1.blk = some (b, e', ce) → T0.blk ≠ some (b, e2, ce2) := by
    intro i T1 hi b e' ce e2 ce2 hb hb2
    have := S2.tinj (i - σ.next) id T1 T0 b e' ce e2 ce2 (tsame i T1 hi) h1 hb hb2
    have := ltk i T1 hi
    omega
  have hL1 : ∀ b j, stab M b j → stab (M.sh σ.next) b j := fun b j hs => ⟨fun id hb => hs.1 _ hb, fun id T e ce h1 h2 => hs.2 _ T e ce h1 h2⟩
  have TT : Stp base Fi M w (M.tok σ.next T0) w' := by
    refine ⟨TM.os, TM.tape, TM.output, TM.size, TM.below, fun _ _ h => h, fun i T1 h0 => ⟨T1, ?_, rfl, .inl rfl⟩, fun b j v hs hc => ⟨(T.cell b j v (hL1 b j hs) hc).1, hs.1, fun i T1 e' ce g1 g2 => ?_⟩, TM.fob, fun _ _ h => h, TM.ftk⟩
    · simp only [MM.tok]
      rw [if_neg (by have := ltk i T1 h0; omega)]; exact h0
    · simp only [MM.tok] at g1
      split at g1
      · cases g1
        exact (T.cell b j v (hL1 b j hs) hc).2.2 id T0 e' ce h1 g2
      · exact hs.2 i T1 e' ce g1 g2
  refine ⟨_, _, M.tok σ.next T0, v, ⟨rfl, rfl⟩, he, ?_, ?_, TT⟩
  · unfold Reps at hv ⊢
    obtain ⟨A, c, us, k1, k2, k3, k4, k5, k6, k7, T1, k8, k9, k10, k11, k12⟩ := hv
    rw [h1] at k8; cases k8
    have hL2 : Less M' (M.tok σ.next T0) := by
      intro b j hs
      refine ⟨(hL b j hs).1, fun i T1 e' ce g1 g2 => ?_⟩
      simp only [MM.tok] at g1
      split at g1
      · cases g1; exact hs.2 id T0 e' ce h1 g2
      · exact (hL b j hs).2 i T1 e' ce g1 g2
    exact ⟨A, c, us, k1, k2, k3, k4, k5.imp (fun h => h) fun ⟨b, o, hA, hm⟩ => ⟨b, o, hA, fun j u hu => ⟨(hm j u hu).1, hL2 _ _ (hm j u hu).2⟩⟩, RepsL.less hL2 cells us hR k6, k7, T0, by simp [MM.tok], k9, k10, k11, k12⟩
  · refine ⟨S3.base_le, fun i c hl => ?_, fun i t hl => ?_, fun i sh kvs hl => ?_, S3.inj, fun i i' b T1 e' ce g1 g2 => ?_, fun i i' T1 T2 b e1 ce1 e2 ce2 g1 g2 g3 g4 => ?_, S3.obsz, fun i T1 b e' ce g1 g2 => ?_, fun i hi => ?_⟩
    · obtain ⟨g1, b, us, e', g2, g3, g4, g5⟩ := S.obs i c hl
      have g4' : w'.heap[b]? = some (.cells us e'.1 (nfz us.size e'.2)) := by rw [T.fob (i - σ.next) b (by have := lt i b g2; show i - σ.next < 0; omega) (by rw [sh_ob]; exact g2)]; exact g4
      exact ⟨g1, b, us, e', g2, g3, g4', RepsL.stp TT _ _ g5⟩
    · simp only [alook] at hl
      split at hl
      · rename_i hi
        cases hl
        subst hi
        exact ⟨(S.fresh _ (Int.le_refl _)).2.2.1, T0, by simp [MM.tok], h2, h3⟩
      · rename_i hi
        obtain ⟨g1, T1, g2, g3⟩ := S3.tks i t hl
        exact ⟨g1, T1, by simp [MM.tok, Ne.symm hi, g2], g3⟩
    · simp only [alook] at hl
      split at hl
      · cases hl
      · obtain ⟨g1, g2⟩ := S.mps i sh kvs hl
        exact ⟨g1, g2.stp TT fun b o k1 k2 _ => by rw [T.fob (i - σ.next) b (by have := lt i b k1; show i - σ.next < 0; omega) (by rw [sh_ob]; exact k1)]; exact k2⟩
    · simp only [MM.tok] at g2
      split at g2
      · cases g2; exact S2.dis (i - σ.next) id b T0 e' ce (T.ob _ b (by rw [sh_ob]; exact g1)) h1
      · exact S3.dis i i' b T1 e' ce g1 g2
    · simp only [MM.tok] at g1 g2
      split at g1 <;> split at g2
      · omega
      · cases g1; exact absurd g3 (hne i' T2 g2 b e2 ce2 e1 ce1 g4)
      · cases g2; exact absurd g4 (hne i T1 g1 b e1 ce1 e2 ce2 g3)
      · exact S3.tinj i i' T1 T2 b e1 ce1 e2 ce2 g1 g2 g3 g4
    · simp only [MM.tok] at g1
      split at g1
      · cases g1; exact (hbl b e' ce g2).2
      · exact S3.tksz i T1 b e' ce g1 g2
    · have hi' : σ.next + 1 ≤ i := hi
      obtain ⟨g1, g2, g3⟩ := S3.fresh i (by omega)
      refine ⟨g1, ?_, g3⟩
      simp only [MM.tok]
      rw [if_neg (by omega)]; exact g2
/-- A call whose answer is known. -/
theorem S_call {f : Operand} {g : FuncId} {first cap : List AV} {as_ : List Operand} {ats : Array TypeId} {args : List AV} {R : AV} {σ2 : ASt} (hf : aev sl f = .fn g first cap) (ha : first ++ as_.map (aev sl) ++ cap = args) (h : ACalls P g args σ (fun rv σ' => rv = R ∧ σ' = σ2)) (hc : ∀ (vs : Array Value) (w : World), (callFunc g vs).run P w = .ok (.enter g vs) w) (hs : aput sl dst R = sl') (hk : AOPS P ops r sl' σ2 Q) : AOPS P ops (⟨dst, .call { callee := .value f, args := as_.toArray, argTypes := ats }, ty, pos, after, none⟩ :: r) sl σ Q :=
  AOPS_call hf ha hc h (by rintro rv σ' ⟨rfl, rfl⟩; rw [hs]; exact hk)

/-! ### Rules whose store is written out -/
variable {objs : List (Int × List AV)} {toks : List (Int × Tq)} {next : Int}
theorem T_box {t : TypeId} {av : AV} {cells : List AV} (hx : aevo sl x = some av) (hf : av.flat = true) (hc : av.cells = cells) (hs : aput sl dst (.ptr next 0) = sl') (h : AOPS P ops r sl' ⟨(next, cells) :: objs, toks, next + 1⟩ Q) : AOPS P ops (⟨dst, .box t x, ty, pos, after, none⟩ :: r) sl ⟨objs, toks, next⟩ Q := S_box hx hf hc rfl hs h
theorem T_alloc {t : TypeId} {agg : Bool} {zs : List Value} [T : TyZero P t agg zs] {cs : List AV} (hc : zerosF zs 1 = cs) (hs : aput sl dst (.ptr next 0) = sl') (h : AOPS P ops r sl' ⟨(next, cs) :: objs, toks, next + 1⟩ Q) : AOPS P ops (⟨dst, .alloc t, ty, pos, after, none⟩ :: r) sl ⟨objs, toks, next⟩ Q := AOPS_alloc (cs := cs) (by rw [← hc]; simp [zerosF]) hs h
theorem T_store {t : TypeId} {off : Nat} {id : Int} {cells cells' : List AV} {av : AV} {objs' : List (Int × List AV)} (hx : aev sl x = .ptr id off) (hy : aevo sl y = some av) [T : TyVar P t false 1] (ho : alook objs id = some cells) (hf : av.one = true) (hc : cutF cells off [av] = some cells') (hob : aset objs id cells' = objs') (hs : aput sl dst .und = sl') (h : AOPS P ops r sl' ⟨objs', toks, next⟩ Q) : AOPS P ops (⟨dst, .store t x y, ty, pos, after, none⟩ :: r) sl ⟨objs, toks, next⟩ Q := by
  obtain ⟨h1, h2⟩ := cutF_ok hc
  have h3 : av.cells = [av] := by cases av <;> first | rfl | (simp [AV.one] at hf)
  have h4 : av.flat = true := by cases av <;> first | exact hf | (simp [AV.one] at hf)
  exact AOPS_store (vs := [av]) hx (aevo_eq hy) ho h3 (by simp [hf]) h4 rfl (by simpa using h2) (by rw [h1]; exact hob) hs h
theorem T_store_all {t : TypeId} {sz : Nat} {id : Int} {cells vs : List AV} {objs' : List (Int × List AV)} (hx : aev sl x = .ptr id 0) (hy : aev sl y = .agg vs) [T : TyVar P t true sz] (ho : alook objs id = some cells) (hf : vs.all AV.one = true) (hl : vs.length = sz) (hle : cells.length = sz) (hob : aset objs id vs = objs') (hs : aput sl dst .und = sl') (h : AOPS P ops r sl' ⟨objs', toks, next⟩ Q) : AOPS P ops (⟨dst, .store t x y, ty, pos, after, none⟩ :: r) sl ⟨objs, toks, next⟩ Q := S_store_all (σ := ⟨objs, toks, next⟩) hx hy ho hf hl hle hob hs h
theorem T_append_nils {t e tx : TypeId} {sz by_ : Nat} {cells2 : List AV} {m : Nat} {av : AV} (hx : aev sl x = .nils) (hy : aevo sl y = some av) [T : TySl P t e sz by_] (hS : SrcOk P sz tx av cells2 m) (hb : m * by_ ≤ 140737488355328 ∧ m ≤ 1000000000000) (hs : aput sl dst (.sl (.tok next m sz) cells2 m) = sl') (h : AOPS P ops r sl' ⟨objs, (next, .top m) :: toks, next + 1⟩ Q) : AOPS P ops (⟨dst, .call { callee := .builtin .append, args := #[x, y], argTypes := #[t, tx] }, ty, pos, after, none⟩ :: r) sl ⟨objs, toks, next⟩ Q := AOPS_append_nils hx (aevo_eq hy) hS hb hs h
theorem T_append_full {t e tx : TypeId} {sz by_ : Nat} {cells cells2 : List AV} {n m : Nat} {av : AV} (hx : aev sl x = .sl .full cells n) (hy : aevo sl y = some av) [T : TySl P t e sz by_] (hS : SrcOk P sz tx av cells2 m) (hl : cells.length = n * sz) (hb : (n + m) * by_ ≤ 140737488355328 ∧ n + m ≤ 1000000000000) (hs : aput sl dst (.sl (.tok next (n + m) sz) (cells ++ cells2) (n + m)) = sl') (h : AOPS P ops r sl' ⟨objs, (next, .top (n + m)) :: toks, next + 1⟩ Q) : AOPS P ops (⟨dst, .call { callee := .builtin .append, args := #[x, y], argTypes := #[t, tx] }, ty, pos, after, none⟩ :: r) sl ⟨objs, toks, next⟩ Q := AOPS_append_full hx (aevo_eq hy) hS hl hb hs h
theorem T_append_tok {t e tx : TypeId} {sz by_ top : Nat} {id : Int} {cells cells2 : List AV} {n m : Nat} {av : AV} {toks' : List (Int × Tq)} (hx : aev sl x = .sl (.tok id top sz) cells n) (hy : aevo sl y = some av) [T : TySl P t e sz by_] (htk : alook toks id = some (.top top)) (hS : SrcOk P sz tx av cells2 m) (hb : (n + m) * by_ ≤ 140737488355328 ∧ n + m ≤ 1000000000000) (ht : aset toks id (.top (top + m)) = toks') (hs : aput sl dst (.sl (.tok id (top + m) sz) (cells ++ cells2) (n + m)) = sl') (h : AOPS P ops r sl' ⟨objs, toks', next⟩ Q) : AOPS P ops (⟨dst, .call { callee := .builtin .append, args := #[x, y], argTypes := #[t, tx] }, ty, pos, after, none⟩ :: r) sl ⟨objs, toks, next⟩ Q := AOPS_append_tok hx (aevo_eq hy) htk hS hb ht hs h
theorem bvA_ones (l : List UInt8) : (l.map bvA).all AV.one = true := by
  induction l with
  | nil => rfl
  | cons x l ih => simp only [List.map_cons, List.all_cons, ih, Bool.and_true]; rfl
theorem SrcOk_bytes {by_ : Nat} {tx e : TypeId} {own : AOwn} {l : List UInt8} {n : Nat} (T : TySl P tx e 1 by_) (hl : l.length = n) : SrcOk P 1 tx (.sl own (l.map bvA) n) (l.map bvA) n := SrcOk_sl T (by simp [hl]) (bvA_ones l)
theorem fgL_bvA : ∀ l : List UInt8, AV.fgL (l.map bvA) = l.map bvA
  | [] => rfl
  | x :: l => by simp only [List.map_cons, AV.fgL, fgL_bvA l]; rfl
theorem shutL_bvA : ∀ l : List UInt8, AV.shutL (l.map bvA) = true
  | [] => rfl
  | x :: l => by simp only [List.map_cons, AV.shutL, shutL_bvA l]; rfl
end Go.Proofs.Ytnjkklkjlloedaa
/-! The abstract machine: loops. -/
namespace Go.Proofs.Ytnjkklkjlloedaa
open Go.RowKit
set_option linter.unusedVariables false
set_option linter.unusedSimpArgs false
variable {base : Nat} {Fi : Int → Prop} {M M' M'' : MM} {w w' w'' : World}
variable {P : Program} {ops : Array Oper} {r : List Oper} {sl sl' : List AV} {σ σ' : ASt} {Q : Exit → List AV → ASt → Prop}

/-- So many rounds at most, one after the other. -/
def ARounds (P : Program) (c : Code) (Q : Exit → List AV → ASt → Prop) : Nat → List AV → ASt → Prop
  | 0, _, _ => False
  | n + 1, sl, σ => AWP P c sl σ (fun e sl σ => match e with | .normal => ARounds P c Q n sl σ | e => Q e sl σ)
def ANext (P : Program) (c : Code) (Q : Exit → List AV → ASt → Prop) (n : Nat) : Exit → List AV → ASt → Prop := fun e sl σ => match e with | .normal => ARounds P c Q n sl σ | e => Q e sl σ
theorem ARounds_step {c : Code} {n : Nat} (h : AWP P c sl σ (ANext P c Q n)) : ARounds P c Q (n + 1) sl σ := h
theorem ANext_normal {c : Code} {n : Nat} (h : ARounds P c Q n sl σ) : ANext P c Q n .normal sl σ := h
theorem ANext_exit {c : Code} {n i : Nat} (h : Q (.exit i) sl σ) : ANext P c Q n (.exit i) sl σ := h
theorem ANext_goto {c : Code} {n i : Nat} (h : Q (.goto i) sl σ) : ANext P c Q n (.goto i) sl σ := h
theorem ANext_ret {c : Code} {n : Nat} (h : Q .ret sl σ) : ANext P c Q n .ret sl σ := h
theorem AWP_loop_n {c : Code} (n : Nat) (h : ARounds P c Q n sl σ) : AWP P (.loop c) sl σ Q := by
  intro base Fi M0 w0 M a w hs hr
  refine wp_loop_rounds n ?_
  induction n generalizing sl σ M a w with
  | zero => exact h.elim
  | succ n ih =>
    rw [rounds_succ]
    refine wp_mono (h base Fi M0 w0 M a w hs hr) ?_
    rintro e a' w' ⟨sl', σ', M', hq, hr', hs'⟩
    cases e with
    | normal => exact ih hq M' a' w' hs' hr'
    | _ => exact ⟨sl', σ', M', hq, hr', hs'⟩

/-- Slots, some of them written. -/
def setF : List AV → Nat → AV → Option (List AV)
  | _ :: cs, 0, v => some (v :: cs)
  | c :: cs, k + 1, v => match setF cs k v with | some r => some (c :: r) | none => none
  | [], _, _ => none
def setsF : List AV → List Nat → List AV → Option (List AV)
  | sl, [], [] => some sl
  | sl, i :: ix, v :: vs => match setF sl i v with | some s => setsF s ix vs | none => none
  | _, _, _ => none
/-- A loop: what holds ahead of each round is told by a parameter: the slots of ix hold vs, the others what they held; the store; a measure. -/
def ALoopQ (sl0 : List AV) (ix : List Nat) {N : Type} (vs : N → List AV) (st : N → ASt) (inv : N → Prop) (μ : N → Nat) (m : Nat) (Q : Exit → List AV → ASt → Prop) : Exit → List AV → ASt → Prop
  | .normal, sl, σ => ∃ n, setsF sl0 ix (vs n) = some sl ∧ st n = σ ∧ inv n ∧ μ n < m
  | e, sl, σ => Q e sl σ
theorem ALoopQ_normal {sl0 : List AV} {ix : List Nat} {N : Type} {vs : N → List AV} {st : N → ASt} {inv : N → Prop} {μ : N → Nat} {m : Nat} (n : N) (h1 : setsF sl0 ix (vs n) = some sl) (h2 : st n = σ) (h3 : inv n) (h4 : μ n < m) : ALoopQ sl0 ix vs st inv μ m Q .normal sl σ := ⟨n, h1, h2, h3, h4⟩
theorem ALoopQ_ret {sl0 : List AV} {ix : List Nat} {N : Type} {vs : N → List AV} {st : N → ASt} {inv : N → Prop} {μ : N → Nat} {m : Nat} (h : Q .ret sl σ) : ALoopQ sl0 ix vs st inv μ m Q .ret sl σ := h
theorem ALoopQ_exit {sl0 : List AV} {ix : List Nat} {N : Type} {vs : N → List AV} {st : N → ASt} {inv : N → Prop} {μ : N → Nat} {m i : Nat} (h : Q (.exit i) sl σ) : ALoopQ sl0 ix vs st inv μ m Q (.exit i) sl σ := h
theorem ALoopQ_goto {sl0 : List AV} {ix : List Nat} {N : Type} {vs : N → List AV} {st : N → ASt} {inv : N → Prop} {μ : N → Nat} {m i : Nat} (h : Q (.goto i) sl σ) : ALoopQ sl0 ix vs st inv μ m Q (.goto i) sl σ := h
theorem AWP_loopS {c : Code} {sl0 : List AV} (ix : List Nat) {N : Type} (vs : N → List AV) (st : N → ASt) (inv : N → Prop) (μ : N → Nat) (n0 : N) (h0 : setsF sl0 ix (vs n0) = some sl0) (hst : st n0 = σ) (hi : inv n0)
    (round : ∀ n sl', setsF sl0 ix (vs n) = some sl' → inv n → AWP P c sl' (st n) (ALoopQ sl0 ix vs st inv μ (μ n) Q)) : AWP P (.loop c) sl0 σ Q := by
  have key : ∀ m n sl', μ n = m → setsF sl0 ix (vs n) = some sl' → inv n → ARounds P c Q (m + 1) sl' (st n) := by
    intro m
    induction m using Nat.strongRecOn with
    | _ m ih =>
      intro n sl' hm hs hi
      have hw := round n sl' hs hi
      intro base Fi M0 w0 M a w hst hr
      refine wp_mono (hw base Fi M0 w0 M a w hst hr) ?_
      rintro e a' w' ⟨sl2, σ2, M', hq, hr', hs'⟩
      refine ⟨sl2, σ2, M', ?_, hr', hs'⟩
      cases e with
      | normal =>
        obtain ⟨n', h1, h2, h3, h4⟩ := hq
        have h5 := ih (μ n') (by omega) n' sl2 rfl h1 h3
        subst h2
        have mono : ∀ k j, k ≤ j → ∀ sl σ, ARounds P c Q k sl σ → ARounds P c Q j sl σ := by
          intro k
          induction k with
          | zero => intro j _ sl σ h; exact h.elim
          | succ k ihk =>
            intro j hj sl σ h
            obtain ⟨j, rfl⟩ : ∃ i, j = i + 1 := ⟨j - 1, by omega⟩
            intro base Fi M0 w0 M a w hst hr
            refine wp_mono (h base Fi M0 w0 M a w hst hr) ?_
            rintro e a' w' ⟨sl3, σ3, M3, hq3, hr3, hs3⟩
            refine ⟨sl3, σ3, M3, ?_, hr3, hs3⟩
            cases e with
            | normal => exact ihk j (by omega) sl3 σ3 hq3
            | _ => exact hq3
        exact mono (μ n' + 1) m (by omega) sl2 _ h5
      | _ => exact hq
  subst hst
  exact AWP_loop_n (μ n0 + 1) (key _ n0 sl0 rfl h0 hi)
variable {dst : Option Tmp} {ty : TypeId} {pos : String} {after : Array Edge} {x y z : Operand} {objs : List (Int × List AV)} {toks : List (Int × Tq)} {next : Int}
/-- A row of n elements, all of them zero. -/
theorem azeros_eq (zs : List Value) (hz : 0 < zs.length) : ∀ n, azeros zs (n * zs.length) = zerosF zs n
  | 0 => by simp [azeros, zerosF]
  | n + 1 => by
    rw [zerosF, ← azeros_eq zs hz n]
    apply List.ext_getElem
    · simp [azeros, Nat.succ_mul]; omega
    · intro i h1 h2
      simp only [azeros, List.getElem_map, List.getElem_range]
      by_cases hi : i < zs.length
      · rw [List.getElem_append_left (by simpa using hi)]
        simp [Nat.mod_eq_of_lt hi, hi]
      · rw [List.getElem_append_right (by simpa using hi)]
        simp only [List.length_map, List.getElem_map, List.getElem_range]
        rw [Nat.mod_eq_sub_mod (by omega)]
theorem T_make {t e : TypeId} {by_ sz : Nat} {agg : Bool} {zs : List Value} [T : TySl P t e sz by_] [Z : TyZero P e agg zs] {n : Nat} {k k' : IntKind} {i j : Int} {cs : List AV} (hx : aev sl x = .int k i) (hy : aev sl y = .int k' j) (hi : i = (n : Int)) (hj : j = (n : Int)) (hb : by_ * n ≤ 281474976710656 ∧ n ≤ 1000000000) (hzl : zs.length = sz) (hz : zerosF zs n = cs) (hs : aput sl dst (.row next 0 n) = sl') (h : AOPS P ops r sl' ⟨(next, cs) :: objs, toks, next + 1⟩ Q) : AOPS P ops (⟨dst, .makeSlice t x y, ty, pos, after, none⟩ :: r) sl ⟨objs, toks, next⟩ Q :=
  AOPS_make hx hy hi hj hb hzl hs (by
    have hp := T.pos
    rw [← hz, ← azeros_eq zs (by omega) n, hzl] at h
    exact h)
def zF (v : AV) : Nat → Option (List AV)
  | 0 => some []
  | n + 1 => match zF v n with | some r => some (v :: r) | none => none
theorem zF_ok {v : Value} : ∀ {n : Nat} {cs : List AV}, zF (cav v) n = some cs → zerosF [v] n = cs
  | 0, cs, h => by simp [zF] at h; subst h; rfl
  | n + 1, cs, h => by
    simp only [zF] at h
    split at h
    · rename_i q hq
      cases h
      simp [zerosF, zF_ok hq]
    · cases h
theorem T_make1 {t e : TypeId} {by_ : Nat} {agg : Bool} {v : Value} [T : TySl P t e 1 by_] [Z : TyZero P e agg [v]] {n : Nat} {k k' : IntKind} {i j : Int} {cs : List AV} {av : AV} (hx : aev sl x = .int k i) (hy : aev sl y = .int k' j) (hi : i = (n : Int)) (hj : j = (n : Int)) (hb : by_ * n ≤ 281474976710656 ∧ n ≤ 1000000000) (hv : aevo [] (.const v) = some av) (hz : zF av n = some cs) (hs : aput sl dst (.row next 0 n) = sl') (h : AOPS P ops r sl' ⟨(next, cs) :: objs, toks, next + 1⟩ Q) : AOPS P ops (⟨dst, .makeSlice t x y, ty, pos, after, none⟩ :: r) sl ⟨objs, toks, next⟩ Q :=
  T_make hx hy hi hj hb rfl (zF_ok (by rw [← hz]; congr 1; exact (aevo_eq hv))) hs h
/-- A function that yields a row that it made. -/
theorem AVal.mkRow {f : FuncId} {args : List AV} {cells : List AV} {m : Nat} (hA : AV.shutL args = true) (hR : AV.shutL cells = true) (h0 : m = 0 → cells = []) (h : ACalls P f args ⟨[], [], 0⟩ (fun rv σ' => ∃ id, rv = .row id 0 m ∧ alook σ'.objs id = some cells)) : AVal P f args (.sl .full cells m) := by
  intro σ base Fi M w vs S hr
  refine (seen_none h hA S hr).mono ?_
  rintro e w' ⟨rv, σ2, M', v, ⟨id, rfl, hid⟩, he, hv, S2, TM, S3, hL, T⟩
  obtain ⟨hF, b, us, e', h1, h2, h3, h4⟩ := S2.obs id cells hid
  refine ⟨_, σ, M, v, ⟨rfl, rfl⟩, he, ?_, S3, TM⟩
  have lt : ∀ i b, M.ob i = some b → i < σ.next := fun i b hb => Int.lt_of_not_ge fun hle => by rw [(S.fresh i hle).1] at hb; cases hb
  have ltk : ∀ i T, M.tk i = some T → i < σ.next := fun i T hb => Int.lt_of_not_ge fun hle => by rw [(S.fresh i hle).2.1] at hb; cases hb
  have hidn : 0 ≤ id := Int.not_lt.1 fun hlt => hF.1 hlt
  unfold Reps at hv ⊢
  obtain ⟨b', h5, h6, h7⟩ := hv
  rw [h1] at h5; cases h5
  refine ⟨_, m, us.toList, h6, Nat.le_refl m, h7, (fun h => by cases h), .inr ⟨b, 0, rfl, fun j u hu => ?_⟩, RepsL.less hL cells _ hR h4, h0, by unfold OwnOk; rfl⟩
  rw [Nat.zero_add]
  refine ⟨by rw [cell_of_row w' _ _ _ _ _ h3]; simpa using hu, fun i hi => ?_, fun i T0 e2 ce g1 g2 => ?_⟩
  · have := S2.inj (i - σ.next) id b (T.ob _ b (by rw [sh_ob]; exact hi)) h1
    have := lt i b hi
    omega
  · obtain ⟨T1, k1, _, k3⟩ := T.tk (i - σ.next) T0 (by rw [sh_tk]; exact g1)
    have := ltk i T0 g1
    rcases k3 with rfl | ⟨_, k3⟩
    · exact absurd g2 (S2.dis id _ b T1 e2 ce h1 k1)
    · exact absurd (show i - σ.next < 0 by omega) k3
def asetF {α : Type} : List (Int × α) → Int → α → Option (List (Int × α))
  | [], _, _ => none
  | (k, v) :: r, id, x => if k = id then some ((k, x) :: r) else match asetF r id x with | some q => some ((k, v) :: q) | none => none
theorem asetF_ok {α : Type} : ∀ {l r : List (Int × α)} {id : Int} {x : α}, asetF l id x = some r → aset l id x = r
  | [], r, id, x, h => by simp [asetF] at h
  | (k, v) :: l, r, id, x, h => by
    simp only [asetF] at h
    unfold aset
    split at h
    · rename_i hk; cases h; rw [if_pos hk]
    · rename_i hk
      rw [if_neg hk]
      split at h
      · rename_i q hq; cases h; rw [asetF_ok hq]
      · cases h
theorem U_store {t : TypeId} {off : Nat} {id : Int} {cells cells' : List AV} {av : AV} {objs' : List (Int × List AV)} (hx : aev sl x = .ptr id off) (hy : aevo sl y = some av) [T : TyVar P t false 1] (ho : alook objs id = some cells) (hf : av.one = true) (hc : cutF cells off [av] = some cells') (hob : asetF objs id cells' = some objs') (hs : aput sl dst .und = sl') (h : AOPS P ops r sl' ⟨objs', toks, next⟩ Q) : AOPS P ops (⟨dst, .store t x y, ty, pos, after, none⟩ :: r) sl ⟨objs, toks, next⟩ Q := T_store hx hy ho hf hc (asetF_ok hob) hs h
theorem U_store_all {t : TypeId} {sz : Nat} {id : Int} {cells vs : List AV} {objs' : List (Int × List AV)} (hx : aev sl x = .ptr id 0) (hy : aev sl y = .agg vs) [T : TyVar P t true sz] (ho : alook objs id = some cells) (hf : vs.all AV.one = true) (hl : vs.length = sz) (hle : cells.length = sz) (hob : asetF objs id vs = some objs') (hs : aput sl dst .und = sl') (h : AOPS P ops r sl' ⟨objs', toks, next⟩ Q) : AOPS P ops (⟨dst, .store t x y, ty, pos, after, none⟩ :: r) sl ⟨objs, toks, next⟩ Q := T_store_all hx hy ho hf hl hle (asetF_ok hob) hs h
theorem U_append_tok {t e tx : TypeId} {sz by_ top : Nat} {id : Int} {cells cells2 : List AV} {n m : Nat} {av : AV} {toks' : List (Int × Tq)} (hx : aev sl x = .sl (.tok id top sz) cells n) (hy : aevo sl y = some av) [T : TySl P t e sz by_] (htk : alook toks id = some (.top top)) (hS : SrcOk P sz tx av cells2 m) (hb : (n + m) * by_ ≤ 140737488355328 ∧ n + m ≤ 1000000000000) (ht : asetF toks id (.top (top + m)) = some toks') (hs : aput sl dst (.sl (.tok id (top + m) sz) (cells ++ cells2) (n + m)) = sl') (h : AOPS P ops r sl' ⟨objs, toks', next⟩ Q) : AOPS P ops (⟨dst, .call { callee := .builtin .append, args := #[x, y], argTypes := #[t, tx] }, ty, pos, after, none⟩ :: r) sl ⟨objs, toks, next⟩ Q := T_append_tok hx hy htk hS hb (asetF_ok ht) hs h
theorem AResults.tmpO {t : Tmp} {rs : List ResultVar} {xs : List AV} {a : AV} (h : aevo sl (.tmp t) = some a) (k : AResults P sl σ rs xs) : AResults P sl σ (.tmp t :: rs) (a :: xs) := .tmp (aevo_eq h) k
theorem AResults.cellO {t : Tmp} {ty : TypeId} {sz : Nat} {id : Int} {cells : List AV} {rs : List ResultVar} {xs : List AV} [T : TyVar P ty true sz] (h : aev sl (.tmp t) = .ptr id 0) (ho : alook σ.objs id = some cells) (hl : cells.length = sz) (k : AResults P sl σ rs xs) : AResults P sl σ (.cell t ty :: rs) (.agg cells :: xs) := .cell h T ho (by simp [aload, ← hl]) k
end Go.Proofs.Ytnjkklkjlloedaa
/-! The abstract machine: bytes. -/
namespace Go.Proofs.Ytnjkklkjlloedaa
open Go.RowKit
set_option linter.unusedVariables false
set_option linter.unusedSimpArgs false
variable {base : Nat} {Fi : Int → Prop} {M M' M'' : MM} {w w' w'' : World}
variable {P : Program} {ops : Array Oper} {r : List Oper} {sl sl' : List AV} {σ σ' : ASt} {Q : Exit → List AV → ASt → Prop}
variable {dst : Option Tmp} {ty : TypeId} {pos : String} {after : Array Edge} {x y z : Operand} {objs : List (Int × List AV)} {toks : List (Int × Tq)} {next : Int}

/-! ### nil as a buffer -/
theorem adopt_ok {a : Act} (hr : Rel base Fi M a w sl ⟨objs, toks, next⟩) {t sz : Nat} (ht : sl[t]? = some .nils) : ∃ M', Rel base Fi M' a w (sl.set t (.sl (.tok next 0 sz) [] 0)) ⟨objs, (next, .top 0) :: toks, next + 1⟩ ∧ Stp base Fi M w M' w := by
  have S := hr.2.2
  have hT := (Grew.refl w).tok S (id := next) (T := ⟨sz, 0, none⟩) (.inl rfl) (fun b e' ce h => by cases h)
  refine ⟨M.tok next ⟨sz, 0, none⟩, ⟨hr.1, ?_, ?_⟩, hT⟩
  · obtain ⟨v, hv, hrv⟩ := hr.2.1.get t _ ht
    unfold Reps at hrv
    subst hrv
    have h8 : Reps (M.tok next ⟨sz, 0, none⟩) w (.sl (.tok next 0 sz) [] 0) (.slice none 0 0) := by
      unfold Reps
      exact ⟨none, 0, [], rfl, Nat.le_refl _, by simp, fun _ => rfl, .inl rfl, RepsL.nil, fun _ => rfl, ⟨sz, 0, none⟩, by simp [MM.tok], rfl, Nat.le_refl _, by simp, fun _ => rfl⟩
    have h9 := (RepsL.stp hT _ _ hr.2.1).set t h8
    have h10 : a.tmps.toList.set t (.slice none 0 0) = a.tmps.toList := by
      apply List.ext_getElem?
      intro i
      rw [List.getElem?_set]
      split
      · rename_i hi; subst hi; rw [hv]; split
        · rfl
        · rename_i hlt; rw [List.getElem?_eq_none (by omega)] at hv; cases hv
      · rfl
    rw [h10] at h9
    exact h9
  · refine (Grew.refl w).tok_st S (.inl rfl) (fun b e' ce h => by cases h) (fun i top h => ?_) (by show next ≤ next + 1; omega) (by show next < next + 1; omega)
    simp only [alook] at h
    split at h
    · rename_i he; cases h; exact .inl ⟨he.symm, rfl⟩
    · rename_i he; exact .inr ⟨Ne.symm he, h⟩
theorem setF_ok : ∀ {l r : List AV} {t : Nat} {v : AV}, setF l t v = some r → l.set t v = r
  | [], r, t, v, h => by simp [setF] at h
  | c :: cs, r, 0, v, h => by simp [setF] at h; simp [h]
  | c :: cs, r, t + 1, v, h => by
    simp only [setF] at h
    split at h
    · rename_i q hq; cases h; simp [setF_ok hq]
    · cases h
theorem AWP_adopt {c : Code} (t sz : Nat) (ht : sl[t]? = some .nils) (hs : setF sl t (.sl (.tok next 0 sz) [] 0) = some sl') (h : AWP P c sl' ⟨objs, (next, .top 0) :: toks, next + 1⟩ Q) : AWP P c sl ⟨objs, toks, next⟩ Q := by
  intro base Fi M0 w0 M a w hst hr
  obtain ⟨M', h1, h2⟩ := adopt_ok (sz := sz) hr ht
  rw [setF_ok hs] at h1
  exact h base Fi M0 w0 M' a w (hst.trans h2) h1
theorem AOPS_adopt {ops : Array Oper} {l : List Oper} (t sz : Nat) (ht : sl[t]? = some .nils) (hs : setF sl t (.sl (.tok next 0 sz) [] 0) = some sl') (h : AOPS P ops l sl' ⟨objs, (next, .top 0) :: toks, next + 1⟩ Q) : AOPS P ops l sl ⟨objs, toks, next⟩ Q := by
  intro base Fi M0 w0 M a w hst hr
  obtain ⟨M', h1, h2⟩ := adopt_ok (sz := sz) hr ht
  rw [setF_ok hs] at h1
  exact h base Fi M0 w0 M' a w (hst.trans h2) h1

/-- Buffers that are not asked for any more. -/
theorem AWP_forget {c : Code} (toks' : List (Int × Tq)) (ht : ∀ id t, alook toks' id = some t → alook toks id = some t) (h : AWP P c sl ⟨objs, toks', next⟩ Q) : AWP P c sl ⟨objs, toks, next⟩ Q := by
  intro base Fi M0 w0 M a w hst hr
  have S := hr.2.2
  exact h base Fi M0 w0 M a w hst ⟨hr.1, hr.2.1, S.base_le, S.obs, fun id t hl => S.tks id t (ht id _ hl), fun id sh kvs hl => S.mps id sh kvs (ht id _ hl), S.inj, S.dis, S.tinj, S.obsz, S.tksz, S.fresh⟩
theorem At_region {id : Nat} {ops : Array Oper} {d : Bool} (h : AWP P (.region id ops d) sl σ Q) : AWP P (.region id ops d) sl σ Q := h

/-! ### Bytes -/
theorem bits_xor8 (a b : UInt8) : bits .xor .u8 (a.toNat : Int) (b.toNat : Int) = ((a ^^^ b).toNat : Int) := by
  have ha := a.toNat_lt
  have hb := b.toNat_lt
  have ha' : a.toNat % 2 ^ 8 = a.toNat := Nat.mod_eq_of_lt ha
  have hb' : b.toNat % 2 ^ 8 = b.toNat := Nat.mod_eq_of_lt hb
  have hx : a.toNat ^^^ b.toNat < 2 ^ 8 := Nat.xor_lt_two_pow ha hb
  simp only [bits, BitVec.ofInt_natCast, BitVec.toNat_xor, BitVec.toNat_ofNat, show IntKind.u8.bits = 8 from rfl, ha', hb', UInt8.toNat_xor]
  rw [IntKind.wrap_u8]
  omega
theorem S_xor8 {ops : Array Oper} {r : List Oper} {t t' : TypeId} {a b : UInt8} (hx : aev sl x = bvA a) (hy : aev sl y = bvA b) (hs : aput sl dst (bvA (a ^^^ b)) = sl') (h : AOPS P ops r sl' σ Q) : AOPS P ops (⟨dst, .binOp .xor t x y t', ty, pos, after, none⟩ :: r) sl σ Q :=
  AOPS_bin (k := .u8) (m := a.toNat) (n := b.toNat) hx hy (by simp only [abin, bits_xor8]; rfl) hs h
theorem S_eq8 {ops : Array Oper} {r : List Oper} {t t' : TypeId} {a b : UInt8} (hx : aev sl x = bvA a) (hy : aev sl y = bvA b) (hs : aput sl dst (.bool (a == b)) = sl') (h : AOPS P ops r sl' σ Q) : AOPS P ops (⟨dst, .binOp .eql t x y t', ty, pos, after, none⟩ :: r) sl σ Q :=
  AOPS_bin (k := .u8) (m := a.toNat) (n := b.toNat) hx hy (by
    simp only [abin]
    congr 2
    rw [Bool.eq_iff_iff, beq_iff_eq, beq_iff_eq]
    constructor
    · intro h; exact UInt8.toNat_inj.1 (by omega)
    · rintro rfl; rfl) hs h
theorem S_ne8 {ops : Array Oper} {r : List Oper} {t t' : TypeId} {a b : UInt8} (hx : aev sl x = bvA a) (hy : aev sl y = bvA b) (hs : aput sl dst (.bool (a != b)) = sl') (h : AOPS P ops r sl' σ Q) : AOPS P ops (⟨dst, .binOp .neq t x y t', ty, pos, after, none⟩ :: r) sl σ Q :=
  AOPS_bin (k := .u8) (m := a.toNat) (n := b.toNat) hx hy (by
    simp only [abin]
    congr 2
    rw [Bool.eq_iff_iff, bne_iff_ne, bne_iff_ne]
    constructor
    · rintro h rfl; exact h rfl
    · intro h h2; exact h (UInt8.toNat_inj.1 (by omega))) hs h
/-- An element's address: elements of sz cells. -/
theorem S_indexAddr {ops : Array Oper} {r : List Oper} {t e : TypeId} {sz by_ : Nat} {own : AOwn} {cells : List AV} {n j off : Nat} {k : IntKind} {i : Int} (hx : aev sl x = .sl own cells n) (hy : aev sl y = .int k i) [T : TySl P t e sz by_] (hj : i = (j : Int)) (hi : j < n) (ho : j * sz = off) (hs : aput sl dst (.epr cells off) = sl') (h : AOPS P ops r sl' σ Q) : AOPS P ops (⟨dst, .indexAddr t x y, ty, pos, after, none⟩ :: r) sl σ Q := by
  subst hj ho
  exact AOPS_indexAddr hx hy (by omega) (by simpa using hs) h
theorem S_load_byte {ops : Array Oper} {r : List Oper} {t : TypeId} {off : Nat} {l : List UInt8} (hx : aev sl x = .epr (l.map bvA) off) [T : TyVar P t false 1] (hlt : off < l.length) (hs : aput sl dst (bvA (l.getD off 0)) = sl') (h : AOPS P ops r sl' σ Q) : AOPS P ops (⟨dst, .load t x, ty, pos, after, none⟩ :: r) sl σ Q :=
  S_load_epr hx (by simp [hlt]) hs h

theorem S_inc8 {ops : Array Oper} {r : List Oper} {t t' : TypeId} {a : UInt8} (hx : aev sl x = bvA a) (hy : aev sl y = .int .u8 1) (hs : aput sl dst (bvA (a + 1)) = sl') (h : AOPS P ops r sl' σ Q) : AOPS P ops (⟨dst, .binOp .add t x y t', ty, pos, after, none⟩ :: r) sl σ Q :=
  AOPS_bin (k := .u8) (m := a.toNat) (n := 1) hx hy (by
    have ha := a.toNat_lt
    have e : ((a + 1 : UInt8).toNat : Int) = ((a.toNat : Int) + 1) % 256 := by rw [UInt8.toNat_add]; rfl
    show some (AV.int .u8 (IntKind.u8.wrap ((a.toNat : Int) + 1))) = some (AV.int .u8 ((a + 1 : UInt8).toNat : Int))
    rw [e, IntKind.wrap_u8]) hs h
theorem S_mul {ops : Array Oper} {r : List Oper} {t t' : TypeId} {m n : Int} (hx : aev sl x = .int .i64 m) (hy : aev sl y = .int .i64 n) (hb : -9223372036854775808 ≤ m * n ∧ m * n ≤ 9223372036854775807) (hs : aput sl dst (.int .i64 (m * n)) = sl') (h : AOPS P ops r sl' σ Q) : AOPS P ops (⟨dst, .binOp .mul t x y t', ty, pos, after, none⟩ :: r) sl σ Q :=
  AOPS_bin hx hy (by simp only [abin]; rw [IntKind.wrap_i64]; congr 2; omega) hs h
/-- Slices of bytes. -/
theorem S_slice8_h {ops : Array Oper} {r : List Oper} {t e : TypeId} {by_ : Nat} {own : AOwn} {l : List UInt8} {n m : Nat} {k' : IntKind} {j : Int} (hx : aev sl x = .sl own (l.map bvA) n) [T : TySl P t e 1 by_] (hz : aev sl z = .int k' j) (hh : j = (m : Int)) (hlm : m ≤ n) (hs : aput sl dst (.sl .none ((l.take m).map bvA) m) = sl') (h : AOPS P ops r sl' σ Q) : AOPS P ops (⟨dst, .slice t x none (some z) none, ty, pos, after, none⟩ :: r) sl σ Q :=
  AOPS_slice_h hx hz hh hlm (by rw [Nat.mul_one, ← List.map_take]; exact hs) h
theorem S_slice8_lh {ops : Array Oper} {r : List Oper} {t e : TypeId} {by_ : Nat} {own : AOwn} {l : List UInt8} {n i m : Nat} {k k' : IntKind} {i' j : Int} (hx : aev sl x = .sl own (l.map bvA) n) [T : TySl P t e 1 by_] (hy : aev sl y = .int k i') (hz : aev sl z = .int k' j) (hl : i' = (i : Int)) (hh : j = (m : Int)) (hlm : i ≤ m ∧ m ≤ n) (hs : aput sl dst (.sl .none (((l.drop i).take (m - i)).map bvA) (m - i)) = sl') (h : AOPS P ops r sl' σ Q) : AOPS P ops (⟨dst, .slice t x (some y) (some z) none, ty, pos, after, none⟩ :: r) sl σ Q :=
  AOPS_slice_lh hx hy hz hl hh hlm (by rw [Nat.mul_one, Nat.mul_one, ← List.map_drop, ← List.map_take]; exact hs) h
theorem S_slice8_l {ops : Array Oper} {r : List Oper} {t e : TypeId} {by_ : Nat} {own : AOwn} {l : List UInt8} {n i : Nat} {k : IntKind} {i' : Int} (hx : aev sl x = .sl own (l.map bvA) n) [T : TySl P t e 1 by_] (hy : aev sl y = .int k i') (hl : i' = (i : Int)) (hlm : i ≤ n) (hs : aput sl dst (.sl .none (((l.drop i).take (n - i)).map bvA) (n - i)) = sl') (h : AOPS P ops r sl' σ Q) : AOPS P ops (⟨dst, .slice t x (some y) none none, ty, pos, after, none⟩ :: r) sl σ Q :=
  AOPS_slice_l hx hy hl hlm (by rw [Nat.mul_one, Nat.mul_one, ← List.map_drop, ← List.map_take]; exact hs) h
/-- The least, the most, of two numbers. -/
theorem S_min {ops : Array Oper} {r : List Oper} {t t' : TypeId} {k : IntKind} {m n : Int} (hx : aev sl x = .int k m) (hy : aev sl y = .int k n) (hs : aput sl dst (.int k (min m n)) = sl') (h : AOPS P ops r sl' σ Q) : AOPS P ops (⟨dst, .call { callee := .builtin .min, args := #[x, y], argTypes := #[t, t'] }, ty, pos, after, none⟩ :: r) sl σ Q :=
  AOPS_pure (av := .int k (min m n)) rfl (fun M a w hr => by
    have h1 := ev1 hr hx
    have h2 := ev1 hr hy
    unfold Reps at h1 h2
    refine ⟨.int k (min m n), fun w' _ => ?_, Reps_int⟩
    by_cases hlt : n < m
    · rw [show min m n = n by omega]
      simp [execOp, h1, h2, resolve, invoke, builtin, Builtin.min_, Builtin.min2, hlt]
    · rw [show min m n = m by omega]
      simp [execOp, h1, h2, resolve, invoke, builtin, Builtin.min_, Builtin.min2, hlt]) hs h
theorem S_max {ops : Array Oper} {r : List Oper} {t t' : TypeId} {k : IntKind} {m n : Int} (hx : aev sl x = .int k m) (hy : aev sl y = .int k n) (hs : aput sl dst (.int k (max m n)) = sl') (h : AOPS P ops r sl' σ Q) : AOPS P ops (⟨dst, .call { callee := .builtin .max, args := #[x, y], argTypes := #[t, t'] }, ty, pos, after, none⟩ :: r) sl σ Q :=
  AOPS_pure (av := .int k (max m n)) rfl (fun M a w hr => by
    have h1 := ev1 hr hx
    have h2 := ev1 hr hy
    unfold Reps at h1 h2
    refine ⟨.int k (max m n), fun w' _ => ?_, Reps_int⟩
    by_cases hlt : n > m
    · rw [show max m n = n by omega]
      simp [execOp, h1, h2, resolve, invoke, builtin, Builtin.max_, Builtin.max2, hlt]
    · rw [show max m n = m by omega]
      simp [execOp, h1, h2, resolve, invoke, builtin, Builtin.max_, Builtin.max2, hlt]) hs h

theorem sl_one (own : AOwn) (cells : List AV) (n : Nat) : (AV.sl own cells n).one = true := rfl
theorem nils_one : AV.nils.one = true := rfl
theorem str_one (s : List UInt8) : (AV.str s).one = true := rfl
theorem bvA_one (x : UInt8) : (bvA x).one = true := rfl
theorem S_call_tok {ops : Array Oper} {r : List Oper} {f : Operand} {g : FuncId} {first cap : List AV} {as_ : List Operand} {ats : Array TypeId} {args : List AV} {top sz n : Nat} {cells : List AV} (hf : aev sl f = .fn g first cap) (ha : first ++ as_.map (aev sl) ++ cap = args) (h : ATok P g args top sz cells n) (hc : ∀ (vs : Array Value) (w : World), (callFunc g vs).run P w = .ok (.enter g vs) w) (hs : aput sl dst (.sl (.tok next top sz) cells n) = sl') (hk : AOPS P ops r sl' ⟨objs, (next, .top top) :: toks, next + 1⟩ Q) : AOPS P ops (⟨dst, .call { callee := .value f, args := as_.toArray, argTypes := ats }, ty, pos, after, none⟩ :: r) sl ⟨objs, toks, next⟩ Q :=
  S_call hf ha (h _) hc hs hk
theorem S_call_val {ops : Array Oper} {r : List Oper} {f : Operand} {g : FuncId} {first cap : List AV} {as_ : List Operand} {ats : Array TypeId} {args : List AV} {R : AV} (hf : aev sl f = .fn g first cap) (ha : first ++ as_.map (aev sl) ++ cap = args) (h : AVal P g args R) (hc : ∀ (vs : Array Value) (w : World), (callFunc g vs).run P w = .ok (.enter g vs) w) (hs : aput sl dst R = sl') (hk : AOPS P ops r sl' σ Q) : AOPS P ops (⟨dst, .call { callee := .value f, args := as_.toArray, argTypes := ats }, ty, pos, after, none⟩ :: r) sl σ Q :=
  S_call hf ha (h _) hc hs hk
/-! ### append(b, make([]byte, m)...) -/
theorem zeroCells_one (m : Nat) : Builtin.zeroCells #[Value.int .u8 0] m = (byteCells ⟨(List.replicate m 0).toArray⟩).toArray := by
  apply Array.ext
  · simp [Builtin.zeroCells, byteCells]
  · intro i h1 h2
    simp [Builtin.zeroCells, byteCells, Nat.mod_one]
def growsB (n m c b : Nat) : Prop := c < n + m → Builtin.nextslicecap (n + m) c * b ≤ 281474976710656
theorem append_zeros_eq {t ti ts e : TypeId} {i : TypeInfo} {k : IntKind} {z : Value} (ht : P.underlying t = some (.slice e)) (hti : P.underlying ti = some (.int k)) (hts : P.underlying ts = some .string) (hi : P.info? e = some i) (hsz : i.size = 1) (hz : i.zero = some z) (hzc : z.cells = #[.int .u8 0])
    (A : Option Addr) (n c m : Nat) (kx : IntKind) (hb : (n + m) * i.bytes ≤ 140737488355328 ∧ n + m ≤ 1000000000000) (ty : TypeId) (w : World) :
    (Builtin.append_ #[t, ti] ty #[.slice A n c, .int kx m]).run P w = (Builtin.append_ #[t, ts] ty #[.slice A n c, .string ⟨(List.replicate m 0).toArray⟩]).run P w := by
  have hw : IntKind.i64.wrap (m : Int) = m := by rw [IntKind.wrap_i64]; omega
  have hneg : ¬ ((m : Int) < 0) := by omega
  have hmb : m * i.bytes ≤ 140737488355328 := Nat.le_trans (Nat.mul_le_mul_right _ (Nat.le_add_left m n)) hb.1
  have hbig : ¬ (281474976710656 < (m : Int) * (i.bytes : Int)) := by rw [← Int.natCast_mul]; omega
  have hsize : (⟨(List.replicate m 0).toArray⟩ : ByteArray).size = m := by simp [ByteArray.size]
  have hf : ∀ w' : World, (Builtin.firstCells 1 m (.string ⟨(List.replicate m 0).toArray⟩)).run P w' = .ok (byteCells ⟨(List.replicate m 0).toArray⟩).toArray w' := fun w' => by
    have := firstCells_string (P := P) ⟨(List.replicate m 0).toArray⟩ w'
    rwa [hsize] at this
  have h63' : ¬ (9223372036854775807 < ((n : Int) + (m : Int))) := by omega
  have hbytes : growsB n m c i.bytes := fun h => growslice_fits h hb.1
  have hzc' : Builtin.zeroCells z.cells m = (byteCells ⟨(List.replicate m 0).toArray⟩).toArray := by rw [hzc]; exact zeroCells_one m
  generalize (⟨(List.replicate m 0).toArray⟩ : ByteArray) = s at *
  by_cases hm : m = 0
  · subst hm
    have hw0 : IntKind.i64.wrap 0 = 0 := by rw [IntKind.wrap_i64]; rfl
    have hz0 : (byteCells s) = [] := List.eq_nil_of_length_eq_zero (by rw [byteCells_length, hsize])
    rw [hz0] at hf
    have h63'' : ¬ (9223372036854775807 < (n : Int)) := by omega
    by_cases hroom : n ≤ c
    · simp [Builtin.append_, run_underlying ht, run_underlying hti, run_underlying hts, sizeOf, typeInfo, zeroValue, hi, hz, hsz, asInt, asIntOf, Builtin.lenOf, hroom, hw0, hsize, hf, hz0]
    · have h48' : ¬ (281474976710656 < Builtin.nextslicecap n c * i.bytes) := by have := hbytes (by omega); simp only [Nat.add_zero] at this; omega
      simp [Builtin.append_, run_underlying ht, run_underlying hti, run_underlying hts, sizeOf, typeInfo, zeroValue, hi, hz, hsz, asInt, asIntOf, Builtin.lenOf, hroom, hw0, hsize, hf, hz0, h63'', h48', Question.forced, newRow, grownCap]
  · by_cases hroom : n + m ≤ c
    · simp [Builtin.append_, run_underlying ht, run_underlying hti, run_underlying hts, sizeOf, typeInfo, zeroValue, hi, hz, hsz, asInt, asIntOf, Builtin.lenOf, hroom, hw, hneg, hbig, hsize, hf, hm, hzc']
    · have h48' : ¬ (281474976710656 < Builtin.nextslicecap (n + m) c * i.bytes) := by have := hbytes (by omega); omega
      simp [Builtin.append_, run_underlying ht, run_underlying hti, run_underlying hts, sizeOf, typeInfo, zeroValue, hi, hz, hsz, asInt, asIntOf, Builtin.lenOf, hroom, hw, hneg, hbig, hsize, hf, hm, hzc', h63', h48', Question.forced, newRow, grownCap]
/-- Zeros behind bytes of the call's own. -/
theorem S_append_zeros {ops : Array Oper} {r : List Oper} {t ti e : TypeId} (ts : TypeId) {by_ top : Nat} {id : Int} {cells : List AV} {n : Nat} (m : Nat) {k k' : IntKind} {i' : Int} {toks' : List (Int × Tq)} (hx : aev sl x = .sl (.tok id top 1) cells n) (hy : aev sl y = .int k i') [T : TySl P t e 1 by_] [Z : TyZero P e false [.int .u8 0]] [TI : TyInt P ti k'] (TS : TyStr P ts) (htk : alook toks id = some (.top top)) (hi : i' = (m : Int)) (hb : (n + m) * by_ ≤ 140737488355328 ∧ n + m ≤ 1000000) (ht : asetF toks id (.top (top + m)) = some toks') (hs : aput sl dst (.sl (.tok id (top + m) 1) (cells ++ (List.replicate m 0).map bvA) (n + m)) = sl') (h : AOPS P ops r sl' ⟨objs, toks', next⟩ Q) : AOPS P ops (⟨dst, .call { callee := .builtin .append, args := #[x, y], argTypes := #[t, ti] }, ty, pos, after, none⟩ :: r) sl ⟨objs, toks, next⟩ Q := by
  subst hi
  refine AOPS_eff rfl ?_ hs h
  intro base Fi M a w hr
  have hl : (List.replicate m (0 : UInt8)).length = m := by simp
  have hE := E_append_tok (P := P) (x := x) (y := .const (.string ⟨(List.replicate m 0).toArray⟩)) (t := t) (tx := ts) (dst := dst) (ty := ty) (pos := pos) (after := after) (σ := ⟨objs, toks, next⟩) hx (av := .str (List.replicate m 0)) (by
    simp only [aev, cav]
    rw [if_pos (by simp [ByteArray.size]; omega)]) htk (SrcOk_str TS) (by rw [hl]; omega) rfl base Fi M a w hr
  rw [hl] at hE
  obtain ⟨v, w', M', h1, h2⟩ := hE
  rw [asetF_ok ht] at h2
  refine ⟨v, w', M', ?_, h2⟩
  have g1 := ev1 hr.2.1 hx
  have g2 := ev1 hr.2.1 hy
  unfold Reps at g1 g2
  obtain ⟨A, c, vs, g1, _⟩ := g1
  obtain ⟨i, z, k1, k2, k3, k4⟩ := T.info
  obtain ⟨i2, z2, q1, q2, q3, _⟩ := Z.zero
  rw [k1] at q1; cases q1
  rw [k2] at q2; cases q2
  have hc : z.cells = #[.int .u8 0] := by apply Array.ext'; simpa using q3
  have he := append_zeros_eq T.und TI.und TS.und k1 k3 k2 hc A n c m k (by rw [k4.1]; omega) ty w
  have gc : a.eval (.const (.string ⟨(List.replicate m 0).toArray⟩)) = .string ⟨(List.replicate m 0).toArray⟩ := rfl
  simp only [execOp, resolve, invoke, builtin, Sem.run_bind, Sem.run_pure, Result.andThen_ok, List.map_toArray, List.map_cons, List.map_nil, g1, g2] at h1 ⊢
  rw [gc] at h1
  rw [he]
  exact h1
/-! ### What is bytes -/
def IsB (a : AV) (l : List UInt8) : Prop := (a = .nils ∧ l = []) ∨ ∃ own, a = .sl own (l.map bvA) l.length
theorem IsB.mk_ (own : AOwn) (l : List UInt8) : IsB (.sl own (l.map bvA) l.length) l := .inr ⟨own, rfl⟩
theorem IsB.mk' (own : AOwn) (l : List UInt8) {n : Nat} (h : l.length = n) : IsB (.sl own (l.map bvA) n) l := by subst h; exact .inr ⟨own, rfl⟩
theorem IsB.of {own : AOwn} {cells : List AV} {l : List UInt8} {n : Nat} (h1 : cells = l.map bvA) (h2 : l.length = n) : IsB (.sl own cells n) l := by subst h1 h2; exact .inr ⟨own, rfl⟩
theorem IsB.one (own : AOwn) (x : UInt8) : IsB (.sl own [bvA x] 1) [x] := .inr ⟨own, rfl⟩
theorem IsB.app (own : AOwn) (l1 l2 : List UInt8) {n : Nat} (h : l1.length + l2.length = n) : IsB (.sl own (l1.map bvA ++ l2.map bvA) n) (l1 ++ l2) := by subst h; exact .inr ⟨own, by simp⟩
theorem IsB.app1 (own : AOwn) (l1 : List UInt8) (x : UInt8) {n : Nat} (h : l1.length + 1 = n) : IsB (.sl own (l1.map bvA ++ [bvA x]) n) (l1 ++ [x]) := by subst h; exact .inr ⟨own, by simp⟩
theorem IsB.app3 (own : AOwn) (l1 l2 l3 : List UInt8) {n : Nat} (h : l1.length + l2.length + l3.length = n) : IsB (.sl own ((l1.map bvA ++ l2.map bvA) ++ l3.map bvA) n) (l1 ++ l2 ++ l3) := by subst h; exact .inr ⟨own, by simp; omega⟩
theorem IsB.nils : IsB .nils [] := .inl ⟨rfl, rfl⟩
theorem IsB.rd {a : AV} {l : List UInt8} {v : Value} (h : IsB a l) (hr : Reps M w a v) : ∃ A c, v = .slice A l.length c ∧ Rd w 1 A l.length c (bvs l) := by
  rcases h with ⟨rfl, rfl⟩ | ⟨own, rfl⟩
  · unfold Reps at hr
    exact ⟨none, 0, hr, by simp [bvs], Nat.le_refl _, by simp, fun _ => rfl, .inl rfl⟩
  · exact hr.rd rfl
def IsBs (cs : List AV) (ls : List (List UInt8)) : Prop := cs.length = ls.length ∧ ∀ (j : Nat) (a : AV) (l : List UInt8), cs[j]? = some a → ls[j]? = some l → IsB a l
theorem IsBs.nil : IsBs [] [] := ⟨rfl, fun _ _ _ h => by simp at h⟩
theorem IsBs.cons {a : AV} {l : List UInt8} {cs : List AV} {ls : List (List UInt8)} (h : IsB a l) (k : IsBs cs ls) : IsBs (a :: cs) (l :: ls) :=
  ⟨by simp [k.1], fun j => match j with
    | 0 => fun a' l' h1 h2 => by simp at h1 h2; subst h1 h2; exact h
    | j + 1 => fun a' l' h1 h2 => k.2 j a' l' (by simpa using h1) (by simpa using h2)⟩
theorem SrcOk_isB {by_ : Nat} {tx e : TypeId} {a : AV} {l : List UInt8} (T : TySl P tx e 1 by_) (h : IsB a l) : SrcOk P 1 tx a (l.map bvA) l.length := by
  rcases h with ⟨rfl, rfl⟩ | ⟨own, rfl⟩
  · exact SrcOk_nils T
  · exact SrcOk_bytes T rfl
theorem S_len_isB {ops : Array Oper} {r : List Oper} {t : TypeId} {a : AV} {l : List UInt8} (hx : aev sl x = a) (hb : IsB a l) {e : TypeId} {sz by_ : Nat} [T : TySl P t e sz by_] (hs : aput sl dst (.int .i64 l.length) = sl') (h : AOPS P ops r sl' σ Q) : AOPS P ops (⟨dst, .call { callee := .builtin .len, args := #[x], argTypes := #[t] }, ty, pos, after, none⟩ :: r) sl σ Q := by
  rcases hb with ⟨rfl, rfl⟩ | ⟨own, rfl⟩
  · exact AOPS_len_nils hx hs h
  · exact AOPS_len_sl hx hs h
theorem IsB.fgn {a : AV} {l : List UInt8} (h : IsB a l) : ∃ b, a.fg = b ∧ IsB b l ∧ b.shut = true ∧ b.one = true := by
  rcases h with ⟨rfl, rfl⟩ | ⟨own, rfl⟩
  · exact ⟨.nils, by simp [AV.fg], .nils, by simp [AV.shut], rfl⟩
  · refine ⟨_, rfl, ?_⟩
    cases own <;> unfold AV.fg <;> (try dsimp only) <;> rw [fgL_bvA] <;> refine ⟨.mk_ _ _, ?_, rfl⟩ <;> unfold AV.shut <;> first | exact shutL_bvA l | (dsimp only; rw [shutL_bvA]) | (dsimp only; rw [shutL_bvA]; rfl)
theorem IsB.one_ {a : AV} {l : List UInt8} (h : IsB a l) : a.one = true := by rcases h with ⟨rfl, rfl⟩ | ⟨own, rfl⟩ <;> rfl
theorem S_string_isB {ops : Array Oper} {r : List Oper} {src t e : TypeId} {by_ : Nat} {a : AV} {l : List UInt8} (hx : aev sl x = a) (hb : IsB a l) [T : TySl P src e 1 by_] [B : TyInt P e .u8] [S : TyStr P t] (hs : aput sl dst (.str l) = sl') (h : AOPS P ops r sl' σ Q) : AOPS P ops (⟨dst, .convert src t x, ty, pos, after, none⟩ :: r) sl σ Q := by
  rcases hb with ⟨rfl, rfl⟩ | ⟨own, rfl⟩
  · exact AOPS_string_nils hx hs h
  · exact AOPS_string hx rfl rfl hs h
theorem S_indexAddr_isB {ops : Array Oper} {r : List Oper} {t e : TypeId} {by_ : Nat} {a : AV} {l : List UInt8} {j : Nat} {k : IntKind} {i : Int} (hx : aev sl x = a) (hb : IsB a l) (hy : aev sl y = .int k i) [T : TySl P t e 1 by_] (hj : i = (j : Int)) (hi : j < l.length) (hs : aput sl dst (.epr (l.map bvA) j) = sl') (h : AOPS P ops r sl' σ Q) : AOPS P ops (⟨dst, .indexAddr t x y, ty, pos, after, none⟩ :: r) sl σ Q := by
  rcases hb with ⟨rfl, rfl⟩ | ⟨own, rfl⟩
  · simp at hi
  · exact S_indexAddr hx hy hj hi (by simp) hs h
/-- What a call says of weaker arguments. -/
theorem ACalls.fg {f : FuncId} {args : List AV} {K : AV → ASt → Prop} (h : ACalls P f (AV.fgL args) σ K) : ACalls P f args σ K := fun base Fi M w vs S hr => h base Fi M w vs S (RepsL.fg args vs hr)
theorem AVal.fg {f : FuncId} {args : List AV} {R : AV} (h : AVal P f (AV.fgL args) R) : AVal P f args R := fun σ => (h σ).fg
theorem ATok.fg {f : FuncId} {args : List AV} {top sz n : Nat} {cells : List AV} (h : ATok P f (AV.fgL args) top sz cells n) : ATok P f args top sz cells n := fun σ => (h σ).fg
/-- A contract that ends in bytes. -/
theorem AVal.of_seg {f : FuncId} {args : List AV} {l : List UInt8} {n : Nat} (h : ∀ M w vs, RepsL M w args vs → Calls P f vs.toArray w fun e w' => ∃ A c, e = .returned (.slice A n c) ∧ Seg w' w.heap.size 1 A n c (bvs l) ∧ Below w.heap.size w w') : AVal P f args (.sl .none (l.map bvA) n) := by
  intro σ base Fi M w vs S hr
  refine (h M w vs hr).mono ?_
  rintro e w' ⟨A, c, rfl, hs, hb⟩
  have hG := Below.grew hb
  exact ⟨_, σ, M, _, ⟨rfl, rfl⟩, rfl, Seg.retN S hb hs, hG.st S, hG.stp S⟩
/-- A contract that ends in a number, a bool, a text. -/
theorem AVal.of_below {f : FuncId} {args : List AV} {R : AV} (h : ∀ M w vs, RepsL M w args vs → Calls P f vs.toArray w fun e w' => ∃ v, e = .returned v ∧ (∀ M w, Reps M w R v) ∧ Below w.heap.size w w') : AVal P f args R := by
  intro σ base Fi M w vs S hr
  refine (h M w vs hr).mono ?_
  rintro e w' ⟨v, rfl, hv, hb⟩
  have hG := Below.grew hb
  exact ⟨R, σ, M, v, ⟨rfl, rfl⟩, rfl, hv _ _, hG.st S, hG.stp S⟩
/-- A row of one value. -/
theorem RepsL.inv1 {a : AV} {vs : List Value} (h : RepsL M w [a] vs) : ∃ v, vs = [v] ∧ Reps M w a v := by
  unfold RepsL at h
  obtain ⟨v, vr, rfl, h1, h2⟩ := h
  unfold RepsL at h2
  subst h2
  exact ⟨v, rfl, h1⟩
theorem RepsL.inv2 {a b : AV} {vs : List Value} (h : RepsL M w [a, b] vs) : ∃ u v, vs = [u, v] ∧ Reps M w a u ∧ Reps M w b v := by
  unfold RepsL at h
  obtain ⟨u, vr, rfl, h1, h2⟩ := h
  obtain ⟨v, rfl, h3⟩ := h2.inv1
  exact ⟨u, v, rfl, h1, h3⟩
theorem IsBs.fg : ∀ {cs : List AV} {ls : List (List UInt8)}, IsBs cs ls → IsBs (AV.fgL cs) ls ∧ AV.shutL (AV.fgL cs) = true
  | [], ls, h => ⟨h, by simp [AV.fgL, AV.shutL]⟩
  | a :: cs, [], h => by have := h.1; simp at this
  | a :: cs, l :: ls, h => by
    have h1 : IsB a l := h.2 0 a l rfl rfl
    have h2 : IsBs cs ls := ⟨by have := h.1; simpa using this, fun j a' l' e1 e2 => h.2 (j + 1) a' l' (by simpa using e1) (by simpa using e2)⟩
    obtain ⟨b, e, k1, k2, _⟩ := h1.fgn
    obtain ⟨k3, k4⟩ := h2.fg
    exact ⟨by unfold AV.fgL; rw [e]; exact .cons k1 k3, by unfold AV.fgL AV.shutL; rw [e, k2, k4]; rfl⟩
theorem ATok.val {f : FuncId} {args : List AV} {l : List UInt8} {top n : Nat} (h : ATok P f args top 1 (l.map bvA) n) (hA : AV.shutL args = true) : AVal P f args (.sl .none (l.map bvA) n) := by
  refine AVal.mk hA (by unfold AV.shut; exact shutL_bvA l) ((h ⟨[], [], 0⟩).mono ?_)
  rintro rv σ' ⟨rfl, _⟩
  unfold AV.fg
  rw [fgL_bvA]
end Go.Proofs.Ytnjkklkjlloedaa
/-! The abstract machine: regions that draw their order. (Printed by wip/tools/gen_amd.py.) -/
namespace Go.Proofs.Ytnjkklkjlloedaa
open Go.RowKit
set_option linter.unusedVariables false
set_option linter.unusedSimpArgs false
variable {base : Nat} {Fi : Int → Prop} {M M' M'' : MM} {w w' w'' : World}
variable {P : Program} {ops : Array Oper} {r : List Oper} {sl sl' : List AV} {σ σ' : ASt} {Q : Exit → List AV → ASt → Prop}
variable {d : Tmp} {dst : Option Tmp} {ty : TypeId} {pos : String} {after : Array Edge} {x y z : Operand} {gd : Option (Nat × Bool)} {op : Op}

/-- No panic, no other end than the walk's own. -/
def NoP (Q : Exit → List AV → ASt → Prop) : Exit → List AV → ASt → Prop
  | .panic _, _, _ => False
  | .outgrown, _, _ => False
  | e, sl, σ => Q e sl σ
theorem NoP.of {e : Exit} (h : NoP Q e sl σ) : Q e sl σ := by cases e <;> first | exact h | exact False.elim h
/-- What is left of a region comes in whatever order. -/
def AANY (P : Program) (n : Nat) (ops : Array Oper) (listed : Array Bool) (sl : List AV) (σ : ASt) (Q : Exit → List AV → ASt → Prop) : Prop :=
  ∀ base Fi M0 w0 M a w, Stp base Fi M0 w0 M w → Rel base Fi M a w sl σ → wpAnyH P .any ops (Lift (NoP Q) base Fi M0 w0) (fun w' => ∃ M', Stp base Fi M w M' w') n listed a w
/-- Behind one operation. -/
def AAnyQ (P : Program) (n : Nat) (ops : Array Oper) (listed : Array Bool) (Q : Exit → List AV → ASt → Prop) : Exit → List AV → ASt → Prop
  | .normal, sl, σ => AANY P n ops listed sl σ Q
  | .panic _, _, _ => False
  | .outgrown, _, _ => False
  | e, sl, σ => Q e sl σ
theorem AAnyQ_normal {n : Nat} {listed : Array Bool} (h : AANY P n ops listed sl σ Q) : AAnyQ P n ops listed Q .normal sl σ := h
theorem AAnyQ.nop {n : Nat} {listed : Array Bool} {e : Exit} (he : e ≠ .normal) (h : AAnyQ P n ops listed Q e sl σ) : NoP Q e sl σ := by
  cases e <;> first | exact absurd rfl he | exact h
theorem AANY_done {n : Nat} {listed : Array Bool} (hr : Region.ready .any ops listed = []) (h : Q .normal sl σ) : AANY P n ops listed sl σ Q :=
  fun base Fi M0 w0 M a w hst hrel => wpAnyH_done hr ⟨sl, σ, M, h, hrel, hst⟩ n

/-! ### What may be taken first -/
def AWant (ops : Array Oper) (o : Oper) (sl : List AV) : Option Bool :=
  match o.guard with
  | none => some true
  | some (j, want) => match ((ops[j]?).bind (·.dst)).map (fun d => sl.getD d .any) with
    | some (.bool b) => some (b == want)
    | some .und => some false
    | _ => none
theorem und_yield {a : Act} (h : RepsL M w sl a.tmps.toList) {j : Nat} (hy : ((ops[j]?).bind (·.dst)).map (fun d => sl.getD d .any) = some .und) : yielded ops a.tmps j = none := by
  cases hd : (ops[j]?).bind (·.dst) with
  | none => simp [yielded, hd]
  | some d =>
    rw [hd] at hy
    simp only [Option.map_some, Option.some.injEq] at hy
    have h1 := aev_reps (w := w) h (.tmp d)
    simp only [aev, hy] at h1
    unfold Reps at h1
    have h3 : a.tmps.getD d undef = undef := h1
    simp only [yielded, hd, Option.bind_some]
    rw [Array.getD_eq_getD_getElem?] at h3
    cases hx : a.tmps[d]? with
    | none => rfl
    | some v => rw [hx] at h3; simp only [Option.getD_some] at h3; subst h3; rfl
theorem AWant_ok {o : Oper} {a : Act} {b : Bool} (h : RepsL M w sl a.tmps.toList) (hw : AWant ops o sl = some b) : Region.wanted o (yielded ops a.tmps) = b := by
  unfold AWant at hw
  cases hg : o.guard with
  | none => rw [hg] at hw; simp at hw; subst hw; simp [Region.wanted, hg]
  | some p =>
    obtain ⟨j, want⟩ := p
    rw [hg] at hw
    simp only at hw
    split at hw
    · rename_i b' hb
      cases hw
      have := ayield_ok (ops := ops) (j := j) (b := b') h (by unfold ayield; rw [hb])
      simp only [Region.wanted, hg, this]
      cases b' <;> cases want <;> rfl
    · rename_i hb
      cases hw
      have := und_yield (ops := ops) h hb
      simp only [Region.wanted, hg, this]; rfl
    · cases hw
/-- Operations that may be taken first, one behind the other. -/
def ATK (P : Program) (ops : Array Oper) : List Oper → List AV → ASt → (Exit → List AV → ASt → Prop) → Prop
  | [], sl, σ, Q => Q .normal sl σ
  | o :: r, sl, σ, Q => ∃ av, ((AWant ops o sl = some true ∧ ARun P o sl av) ∨ (AWant ops o sl = some false ∧ av = .und)) ∧ ATK P ops r (aput sl o.dst av) σ Q
theorem ATK_nil (h : Q .normal sl σ) : ATK P ops [] sl σ Q := h
theorem ATK_pure {o : Oper} {av : AV} (hg : o.guard = none) (ho : ARun P o sl av) (hs : aput sl o.dst av = sl') (h : ATK P ops r sl' σ Q) : ATK P ops (o :: r) sl σ Q :=
  ⟨av, .inl ⟨by simp [AWant, hg], ho⟩, by rw [hs]; exact h⟩
theorem ATK_guard_no {j : Nat} {want b : Bool} (hy : ayield ops sl j = some b) (hb : b = !want) (hs : aput sl dst .und = sl') (h : ATK P ops r sl' σ Q) : ATK P ops (⟨dst, op, ty, pos, after, some (j, want)⟩ :: r) sl σ Q := by
  refine ⟨.und, .inr ⟨?_, rfl⟩, by rw [hs]; exact h⟩
  unfold ayield at hy
  split at hy
  · rename_i b' hb'; cases hy; simp only [AWant, hb']; rw [hb]; cases want <;> rfl
  · cases hy
theorem ATK_guard_und {j : Nat} {want : Bool} (hy : ((ops[j]?).bind (·.dst)).map (fun d => sl.getD d .any) = some .und) (hs : aput sl dst .und = sl') (h : ATK P ops r sl' σ Q) : ATK P ops (⟨dst, op, ty, pos, after, some (j, want)⟩ :: r) sl σ Q :=
  ⟨.und, .inr ⟨by simp only [AWant, hy], rfl⟩, by rw [hs]; exact h⟩
theorem ATK_guard_yes {j : Nat} {want b : Bool} (hy : ayield ops sl j = some b) (hb : b = want) (h : ATK P ops (⟨dst, op, ty, pos, after, none⟩ :: r) sl σ Q) : ATK P ops (⟨dst, op, ty, pos, after, some (j, want)⟩ :: r) sl σ Q := by
  obtain ⟨av, h1, h2⟩ := h
  refine ⟨av, .inl ⟨?_, ?_⟩, h2⟩
  · unfold ayield at hy
    split at hy
    · rename_i b' hb'; cases hy; simp only [AWant, hb']; rw [hb]; cases want <;> rfl
    · cases hy
  · rcases h1 with h1 | h1
    · exact h1.2
    · exact absurd h1.1 (by simp [AWant])
def nthO : List Oper → Nat → Option Oper
  | [], _ => none
  | o :: _, 0 => some o
  | _ :: l, i + 1 => nthO l i
theorem nthO_eq : ∀ (l : List Oper) (i : Nat), nthO l i = l.toArray[i]?
  | [], i => by simp [nthO]
  | o :: l, 0 => by simp [nthO]
  | o :: l, i + 1 => by rw [nthO, nthO_eq l i]; simp
theorem AANY_take0 {n n' i : Nat} {o : Oper} {listed : Array Bool} (hn : n' = n + 1) (ho : ops[i]? = some o) (hs : Region.noSelect ops = true) (hr : (Region.ready .any ops listed).contains i = true) (hf : Region.free .any ops listed i = true) (h : ATK P ops [o] sl σ (AAnyQ P n ops (listed.setIfInBounds i true) Q)) : AANY P n' ops listed sl σ Q := by
  subst hn
  intro base Fi M0 w0 M a w hst hrel
  obtain ⟨av, h1, h2⟩ := h
  have key : ∃ v, YieldsIf P ops (fun w' => ∃ M', Stp base Fi M w M' w') o v a ∧ Reps M w av v := by
    rcases h1 with ⟨hw, hrun⟩ | ⟨hw, rfl⟩
    · obtain ⟨v, h3, h4⟩ := hrun M a w hrel.2.1
      exact ⟨v, .inl ⟨AWant_ok hrel.2.1 hw, fun w' hw' => h3 w' ⟨base, Fi, hw'⟩⟩, h4⟩
    · exact ⟨undef, .inr ⟨AWant_ok hrel.2.1 hw, rfl⟩, by unfold Reps; rfl⟩
  obtain ⟨v, hy, hv⟩ := key
  refine wpAnyH_take ho hs hf hr ?_ hy ⟨M, Stp.refl _ _ _ _⟩ (h2 base Fi M0 w0 M _ w hst ⟨?_, ?_, hrel.2.2⟩)
  · rintro c a w ⟨_, _, _, hF, _⟩
    exact hF.elim
  · cases o.dst <;> exact hrel.1
  · exact aput_reps hrel.2.1 o.dst hv

theorem AANY_take {l : List Oper} {n n' i : Nat} {o : Oper} {listed : Array Bool} (hn : n' = n + 1) (ho : nthO l i = some o) (hs : Region.noSelect l.toArray = true) (hr : (Region.ready .any l.toArray listed).contains i = true) (hf : Region.free .any l.toArray listed i = true) (h : ATK P l.toArray [o] sl σ (AAnyQ P n l.toArray (listed.setIfInBounds i true) Q)) : AANY P n' l.toArray listed sl σ Q :=
  AANY_take0 hn (by rw [← nthO_eq]; exact ho) hs hr hf h

/-! ### What comes in whatever order -/
/-- One that may come up next. -/
def ACand (P : Program) (n : Nat) (ops : Array Oper) (listed : Array Bool) (sl : List AV) (σ : ASt) (Q : Exit → List AV → ASt → Prop) (i : Nat) : Prop := i ∈ Region.ready .any ops listed → ∃ o, ops[i]? = some o ∧ AOPS P ops [o] sl σ (AAnyQ P n ops (listed.setIfInBounds i true) Q)
theorem ACand_no {n i : Nat} {listed : Array Bool} (h : (Region.ready .any ops listed).contains i = false) : ACand P n ops listed sl σ Q i := fun hi => by
  have : (Region.ready .any ops listed).contains i = true := by simpa using hi
  rw [h] at this; cases this
theorem ACand_yes {l : List Oper} {n i : Nat} {o : Oper} {listed : Array Bool} (ho : nthO l i = some o) (h : AOPS P l.toArray [o] sl σ (AAnyQ P n l.toArray (listed.setIfInBounds i true) Q)) : ACand P n l.toArray listed sl σ Q i := fun _ => ⟨o, by rw [← nthO_eq]; exact ho, h⟩
def ACands (P : Program) (n : Nat) (ops : Array Oper) (listed : Array Bool) (sl : List AV) (σ : ASt) (Q : Exit → List AV → ASt → Prop) : List Nat → Prop
  | [] => True
  | i :: es => ACand P n ops listed sl σ Q i ∧ ACands P n ops listed sl σ Q es
theorem ACands_nil {n : Nat} {listed : Array Bool} : ACands P n ops listed sl σ Q [] := trivial
theorem ACands_cons {n i : Nat} {es : List Nat} {listed : Array Bool} (h : ACand P n ops listed sl σ Q i) (k : ACands P n ops listed sl σ Q es) : ACands P n ops listed sl σ Q (i :: es) := ⟨h, k⟩
theorem ACands_all {n : Nat} {listed : Array Bool} : ∀ {es : List Nat}, ACands P n ops listed sl σ Q es → ∀ i ∈ es, ACand P n ops listed sl σ Q i
  | [], _, i, h => by cases h
  | e :: es, hc, i, h => by
    rcases List.mem_cons.1 h with rfl | h
    · exact hc.1
    · exact ACands_all hc.2 i h
theorem wp_to {o : Oper} {a : Act} {K K' : Act → World → Prop} {Q1 Q2 : Exit → Act → World → Prop} (hK : ∀ a w, K a w → K' a w) (hp : ∀ c a w, Q1 (.panic c) a w → Q2 (.panic c) a w) (ho : ∀ a w, ¬ Q1 .outgrown a w) (h : o.wp P a w K Q1) : o.wp P a w K' Q2 := by
  unfold Oper.wp at *
  generalize (execOp a.eval o).run P w = r at *
  cases r with
  | ok n w' =>
    cases n <;> simp only [Oper.upon] at h ⊢
    case value => exact hK _ _ h
    case skip => exact hK _ _ h
    case defer => exact hK _ _ h
    case enter f args =>
      refine Calls.mono h fun e w'' he => ?_
      cases e with
      | returned u => exact hK _ _ he
      | panicked c => exact hp _ _ _ he
      | outgrown => obtain ⟨a, w, h⟩ := he; exact absurd h (ho a w)
    case row => exact Rows.mono h fun _ _ he => hK _ _ he
  | halt x w' =>
    cases x <;> simp only [Oper.upon] at h ⊢
    case panic u => exact hp _ _ _ h
theorem AANY_step {n n' : Nat} (es : List Nat) {listed : Array Bool} (hn : n' = n + 1) (hr : (Region.ready .any ops listed).all (fun i => es.contains i) = true) (hne : (Region.ready .any ops listed).isEmpty = false) (h : ACands P n ops listed sl σ Q es) : AANY P n' ops listed sl σ Q := by
  subst hn
  intro base Fi M0 w0 M a w hst hrel
  refine wpAnyH_all (rs := Region.ready .any ops listed) rfl (fun e => by rw [e] at hne; cases hne) fun i hi => ?_
  have hmem : i ∈ es := by simpa using List.all_eq_true.1 hr i hi
  obtain ⟨o, ho, hop⟩ := ACands_all h i hmem hi
  have h1 := hop base Fi M w M a w (Stp.refl _ _ _ _) hrel
  unfold wpOp
  simp only [ho]
  unfold wpList at h1
  have hK : ∀ a' w', wpList P ops (Lift (AAnyQ P n ops (listed.setIfInBounds i true) Q) base Fi M w) [] a' w' → (∃ M', Stp base Fi M w M' w') ∧ wpAnyH P .any ops (Lift (NoP Q) base Fi M0 w0) (fun w' => ∃ M', Stp base Fi M w M' w') n (listed.setIfInBounds i true) a' w' := by
    rintro a' w' ⟨sl', σ', M', hq, hrel', hst'⟩
    refine ⟨⟨M', hst'⟩, wpAnyH_mono (S' := fun w'' => ∃ M'', Stp base Fi M' w' M'' w'') (fun w'' ⟨M'', h⟩ => ⟨M'', hst'.trans h⟩) ?_⟩
    exact hq base Fi M0 w0 M' a' w' (hst.trans hst') hrel'
  have hout : ∀ a w', ¬ Lift (AAnyQ P n ops (listed.setIfInBounds i true) Q) base Fi M w .outgrown a w' := by
    rintro a w' ⟨_, _, _, hF, _⟩; exact hF
  split
  · rename_i hw
    rw [if_pos hw] at h1
    rcases h1 with h1 | ⟨_, h1⟩
    · exact .inl (wp_to hK (by rintro c a w' ⟨_, _, _, hF, _⟩; exact hF.elim) hout h1)
    · obtain ⟨a, w', h1⟩ := h1; exact absurd h1 (hout a w')
  · rename_i hw
    rw [if_neg hw] at h1
    exact hK _ _ h1
theorem AWP_draw {n id : Nat} {l : List Oper} (hm : P.follows .mixedOrders = true) (hn : l.toArray.size = n) (h : AANY P n l.toArray (Array.replicate n false) sl σ Q) : AWP P (.region id l.toArray true) sl σ Q := by
  intro base Fi M0 w0 M a w hst hrel
  have G : Grew w { w with drawn := w.drawn + 1 } := ⟨rfl, rfl, rfl, Nat.le_refl _, fun _ _ => rfl⟩
  have S := G.stp hrel.2.2
  refine Code.wp_mono (fun e a w q => ?_) (wp_region_held (S := fun w' => ∃ M', Stp base Fi M { w with drawn := w.drawn + 1 } M' w') hm (by rw [hn]; exact h base Fi M0 w0 M a _ (hst.trans S) ⟨hrel.1, RepsL.stp S _ _ hrel.2.1, G.st hrel.2.2⟩))
  obtain ⟨sl', σ', M', q1, q2, q3⟩ := q
  exact ⟨sl', σ', M', q1.of, q2, q3⟩

/-! ### The rules -/
variable {objs : List (Int × List AV)} {toks : List (Int × Tq)} {next : Int}
theorem ATK_move {av : AV} (hx : aev sl x = av) (hs : aput sl dst av = sl') (h : ATK P ops r sl' σ Q) : ATK P ops (⟨dst, .move x, ty, pos, after, none⟩ :: r) sl σ Q :=
  ATK_pure rfl (fun M a w hr => ⟨_, fun _ _ => rfl, hx ▸ aev_reps hr x⟩) hs h
theorem ATK_assign {av : AV} (hx : aev sl x = av) (hs : aput sl dst av = sl') (h : ATK P ops r sl' σ Q) : ATK P ops (⟨dst, .assign x, ty, pos, after, none⟩ :: r) sl σ Q :=
  ATK_pure rfl (fun M a w hr => ⟨_, fun _ _ => rfl, hx ▸ aev_reps hr x⟩) hs h
theorem ATK_pick_t {c : Operand} {b : Bool} {av : AV} (hc : aev sl c = .bool b) (hb : b = true) (hx : aev sl x = av) (hs : aput sl dst av = sl') (h : ATK P ops r sl' σ Q) : ATK P ops (⟨dst, .pick c x y, ty, pos, after, none⟩ :: r) sl σ Q :=
  ATK_pure rfl (fun M a w hr => by
    have h1 := aev_reps hr c
    rw [hc, hb] at h1; unfold Reps at h1
    exact ⟨_, fun _ _ => by simp [execOp, h1, asBool], hx ▸ aev_reps hr x⟩) hs h
theorem ATK_pick_f {c : Operand} {b : Bool} {av : AV} (hc : aev sl c = .bool b) (hb : b = false) (hx : aev sl y = av) (hs : aput sl dst av = sl') (h : ATK P ops r sl' σ Q) : ATK P ops (⟨dst, .pick c x y, ty, pos, after, none⟩ :: r) sl σ Q :=
  ATK_pure rfl (fun M a w hr => by
    have h1 := aev_reps hr c
    rw [hc, hb] at h1; unfold Reps at h1
    exact ⟨_, fun _ _ => by simp [execOp, h1, asBool], hx ▸ aev_reps hr y⟩) hs h
theorem ATK_not {b : Bool} (hx : aev sl x = .bool b) (hs : aput sl dst (.bool (!b)) = sl') (h : ATK P ops r sl' σ Q) {t : TypeId} : ATK P ops (⟨dst, .unOp .not t x, ty, pos, after, none⟩ :: r) sl σ Q :=
  ATK_pure (av := .bool (!b)) rfl (fun M a w hr => by
    have h1 := aev_reps hr x
    rw [hx] at h1; unfold Reps at h1
    exact ⟨.bool (!b), fun w' _ => by simp [execOp, h1, Op.unary], by unfold Reps; rfl⟩) hs h
theorem ATK_bin {op : BinOp} {t t' : TypeId} {k : IntKind} {m n : Int} {av : AV} (hx : aev sl x = .int k m) (hy : aev sl y = .int k n) (ho : abin op k m n = some av) (hs : aput sl dst av = sl') (h : ATK P ops r sl' σ Q) : ATK P ops (⟨dst, .binOp op t x y t', ty, pos, after, none⟩ :: r) sl σ Q :=
  ATK_pure (av := av) rfl (fun M a w hr => by
    have h1 := aev_reps hr x
    have h2 := aev_reps hr y
    rw [hx] at h1; rw [hy] at h2; unfold Reps at h1 h2
    obtain ⟨v, h3, h4⟩ := abin_ok (P := P) ho t M w
    exact ⟨v, fun w' _ => by simp [execOp, h1, h2, h3, eqGuard_int], h4⟩) hs h
theorem ATK_shr {t t' : TypeId} {k k' : IntKind} {m n : Int} (hx : aev sl x = .int k m) (hy : aev sl y = .int k' n) (h0 : 0 ≤ n ∧ n ≤ k.bits) (hs : aput sl dst (.int k (m / 2 ^ n.toNat)) = sl') (h : ATK P ops r sl' σ Q) : ATK P ops (⟨dst, .binOp .shr t x y t', ty, pos, after, none⟩ :: r) sl σ Q :=
  ATK_pure (av := .int k (m / 2 ^ n.toNat)) rfl (fun M a w hr => by
    have h1 := aev_reps hr x
    have h2 := aev_reps hr y
    rw [hx] at h1; rw [hy] at h2; unfold Reps at h1 h2
    exact ⟨.int k (m / 2 ^ n.toNat), fun w' _ => by simp [execOp, h1, h2, binOp, eqGuard_int, shift_shr k k' m n h0.1 h0.2], by unfold Reps; rfl⟩) hs h
theorem ATK_shl {t t' : TypeId} {k k' : IntKind} {m n : Int} (hx : aev sl x = .int k m) (hy : aev sl y = .int k' n) (h0 : 0 ≤ n ∧ n ≤ k.bits) (hs : aput sl dst (.int k (k.wrap (m * 2 ^ n.toNat))) = sl') (h : ATK P ops r sl' σ Q) : ATK P ops (⟨dst, .binOp .shl t x y t', ty, pos, after, none⟩ :: r) sl σ Q :=
  ATK_pure (av := .int k (k.wrap (m * 2 ^ n.toNat))) rfl (fun M a w hr => by
    have h1 := aev_reps hr x
    have h2 := aev_reps hr y
    rw [hx] at h1; rw [hy] at h2; unfold Reps at h1 h2
    exact ⟨.int k (k.wrap (m * 2 ^ n.toNat)), fun w' _ => by simp [execOp, h1, h2, binOp, eqGuard_int, shift_shl k k' m n h0.1 h0.2], by unfold Reps; rfl⟩) hs h
theorem ATK_conv {src t : TypeId} {k k' : IntKind} {n : Int} (hx : aev sl x = .int k n) [T : TyInt P t k'] [T0 : TyInt P src k] (hs : aput sl dst (.int k' (k'.wrap n)) = sl') (h : ATK P ops r sl' σ Q) : ATK P ops (⟨dst, .convert src t x, ty, pos, after, none⟩ :: r) sl σ Q :=
  ATK_pure (av := .int k' (k'.wrap n)) rfl (fun M a w hr => by
    have h1 := aev_reps hr x
    rw [hx] at h1; unfold Reps at h1
    exact ⟨.int k' (k'.wrap n), fun w' _ => by simp [execOp, h1, convert, run_underlying T.und, run_underlying T0.und, Conv.intToInt], by unfold Reps; rfl⟩) hs h
theorem ATK_beq {t t' : TypeId} {b c : Bool} (hx : aev sl x = .bool b) (hy : aev sl y = .bool c) [T : TyBool P t] (hs : aput sl dst (.bool (b == c)) = sl') (h : ATK P ops r sl' σ Q) : ATK P ops (⟨dst, .binOp .eql t x y t', ty, pos, after, none⟩ :: r) sl σ Q :=
  ATK_pure (av := .bool (b == c)) rfl (fun M a w hr => by
    have h1 := aev_reps hr x
    have h2 := aev_reps hr y
    rw [hx] at h1; rw [hy] at h2; unfold Reps at h1 h2
    have h3 : ∀ w, (Op.equal t (.bool b) (.bool c)).run P w = .ok (b == c) w := fun w => run_equalIn_bool' w 9999 t b c T.und
    exact ⟨.bool (b == c), fun w' _ => by simp [execOp, h1, h2, binOp_eql_bool, eqGuard_bool, h3], Reps_bool⟩) hs h
theorem ATK_bne {t t' : TypeId} {b c : Bool} (hx : aev sl x = .bool b) (hy : aev sl y = .bool c) [T : TyBool P t] (hs : aput sl dst (.bool (b != c)) = sl') (h : ATK P ops r sl' σ Q) : ATK P ops (⟨dst, .binOp .neq t x y t', ty, pos, after, none⟩ :: r) sl σ Q :=
  ATK_pure (av := .bool (b != c)) rfl (fun M a w hr => by
    have h1 := aev_reps hr x
    have h2 := aev_reps hr y
    rw [hx] at h1; rw [hy] at h2; unfold Reps at h1 h2
    have h3 : ∀ w, (Op.equal t (.bool b) (.bool c)).run P w = .ok (b == c) w := fun w => run_equalIn_bool' w 9999 t b c T.und
    exact ⟨.bool (!(b == c)), fun w' _ => by simp [execOp, h1, h2, binOp_neq_bool, eqGuard_bool, h3], Reps_bool⟩) hs h
theorem ATK_len_sl {t : TypeId} {own : AOwn} {cells : List AV} {n : Nat} (hx : aev sl x = .sl own cells n) {e : TypeId} {sz by_ : Nat} [T : TySl P t e sz by_] (hs : aput sl dst (.int .i64 n) = sl') (h : ATK P ops r sl' σ Q) : ATK P ops (⟨dst, .call { callee := .builtin .len, args := #[x], argTypes := #[t] }, ty, pos, after, none⟩ :: r) sl σ Q :=
  ATK_pure (av := .int .i64 n) rfl (fun M a w hr => by
    have h1 := ev1 hr hx
    unfold Reps at h1
    obtain ⟨A, c, vs, h1, _⟩ := h1
    exact ⟨.int .i64 n, fun w' L => by simp [execOp, h1, resolve, invoke, builtin, Builtin.len_, run_underlying T.und, goInt], Reps_int⟩) hs h
theorem ATK_len_nils {t : TypeId} (hx : aev sl x = .nils) {e : TypeId} {sz by_ : Nat} [T : TySl P t e sz by_] (hs : aput sl dst (.int .i64 0) = sl') (h : ATK P ops r sl' σ Q) : ATK P ops (⟨dst, .call { callee := .builtin .len, args := #[x], argTypes := #[t] }, ty, pos, after, none⟩ :: r) sl σ Q :=
  ATK_pure (av := .int .i64 0) rfl (fun M a w hr => by
    have h1 := ev1 hr hx
    unfold Reps at h1
    exact ⟨.int .i64 0, fun w' L => by simp [execOp, h1, resolve, invoke, builtin, Builtin.len_, run_underlying T.und, goInt], Reps_int⟩) hs h
theorem ATK_len_row {t : TypeId} {id : Int} {off n : Nat} (hx : aev sl x = .row id off n) {e : TypeId} {sz by_ : Nat} [T : TySl P t e sz by_] (hs : aput sl dst (.int .i64 n) = sl') (h : ATK P ops r sl' σ Q) : ATK P ops (⟨dst, .call { callee := .builtin .len, args := #[x], argTypes := #[t] }, ty, pos, after, none⟩ :: r) sl σ Q :=
  ATK_pure (av := .int .i64 n) rfl (fun M a w hr => by
    have h1 := ev1 hr hx
    unfold Reps at h1
    obtain ⟨b, _, h1, _⟩ := h1
    exact ⟨.int .i64 n, fun w' L => by simp [execOp, h1, resolve, invoke, builtin, Builtin.len_, run_underlying T.und, goInt], Reps_int⟩) hs h
theorem ATK_len_str {t : TypeId} {s : List UInt8} (hx : aev sl x = .str s) [T : TyStr P t] (hs : aput sl dst (.int .i64 s.length) = sl') (h : ATK P ops r sl' σ Q) : ATK P ops (⟨dst, .call { callee := .builtin .len, args := #[x], argTypes := #[t] }, ty, pos, after, none⟩ :: r) sl σ Q :=
  ATK_pure (av := .int .i64 s.length) rfl (fun M a w hr => by
    have h1 := ev1 hr hx
    unfold Reps at h1
    exact ⟨.int .i64 s.length, fun w' L => by simp [execOp, h1.1, resolve, invoke, builtin, Builtin.len_, run_underlying T.und, goInt, ba_size], Reps_int⟩) hs h
theorem ATK_len_arr {t e : TypeId} {n : Nat} [T : TyArr P t n e] (hs : aput sl dst (.int .i64 n) = sl') (h : ATK P ops r sl' σ Q) : ATK P ops (⟨dst, .call { callee := .builtin .len, args := #[x], argTypes := #[t] }, ty, pos, after, none⟩ :: r) sl σ Q :=
  ATK_pure (av := .int .i64 n) rfl (fun M a w hr => by
    exact ⟨.int .i64 n, fun w' L => by simp [execOp, resolve, invoke, builtin, Builtin.len_, run_underlying T.und, goInt], Reps_int⟩) hs h
theorem ATK_fieldAddr {t : TypeId} {f off o : Nat} {id : Int} {agg : Bool} {sz : Nat} (hx : aev sl x = .ptr id o) [T : TyFldS P t f off agg sz] (hs : aput sl dst (.ptr id (o + off)) = sl') (h : ATK P ops r sl' σ Q) : ATK P ops (⟨dst, .fieldAddr t x f, ty, pos, after, none⟩ :: r) sl σ Q :=
  ATK_pure (av := .ptr id (o + off)) rfl (fun M a w hr => by
    have h1 := ev1 hr hx
    unfold Reps at h1
    obtain ⟨b, h0, h1⟩ := h1
    exact ⟨.pointer (some ⟨b, o + off, none⟩), fun w' L => by simp [execOp, h1, fieldAt_ok], by unfold Reps; exact ⟨b, h0, rfl⟩⟩) hs h
theorem ATK_fieldAddr_epr {t : TypeId} {f off o : Nat} {cells : List AV} {agg : Bool} {sz : Nat} (hx : aev sl x = .epr cells o) [T : TyFldS P t f off agg sz] (hs : aput sl dst (.epr cells (o + off)) = sl') (h : ATK P ops r sl' σ Q) : ATK P ops (⟨dst, .fieldAddr t x f, ty, pos, after, none⟩ :: r) sl σ Q :=
  ATK_pure (av := .epr cells (o + off)) rfl (fun M a w hr => by
    have h1 := ev1 hr hx
    unfold Reps at h1
    obtain ⟨b, o', vs, h1, h2, h3⟩ := h1
    exact ⟨.pointer (some ⟨b, o' + o + off, none⟩), fun w' L => by simp [execOp, h1, fieldAt_ok], by unfold Reps; exact ⟨b, o', vs, by rw [Nat.add_assoc], h2, h3⟩⟩) hs h
theorem ATK_field {t : TypeId} {f off : Nat} {agg : Bool} {sz : Nat} {cells : List AV} {av : AV} (hx : aev sl x = .agg cells) [T : TyFldS P t f off agg sz] (hp : apart agg sz cells off = some av) (hs : aput sl dst av = sl') (h : ATK P ops r sl' σ Q) : ATK P ops (⟨dst, .field t x f, ty, pos, after, none⟩ :: r) sl σ Q :=
  ATK_pure (av := av) rfl (fun M a w hr => by
    have h1 := ev1 hr hx
    unfold Reps at h1
    obtain ⟨vs, h1, h2⟩ := h1
    obtain ⟨ft, F, V⟩ := T.fld
    obtain ⟨fs, x, h3, h4, rfl, rfl⟩ := F.und
    obtain ⟨v, h5, h6⟩ := apart_ok V h2 hp
    exact ⟨v, fun w' L => by simp [execOp, h1, Instr.field, run_underlying h3, h4, asAgg, h5], h6⟩) hs h
theorem ATK_indexAddr {t e : TypeId} {sz by_ : Nat} {own : AOwn} {cells : List AV} {n : Nat} {k : IntKind} {i : Int} (hx : aev sl x = .sl own cells n) (hy : aev sl y = .int k i) [T : TySl P t e sz by_] (hi : 0 ≤ i ∧ i < n) (hs : aput sl dst (.epr cells (i.toNat * sz)) = sl') (h : ATK P ops r sl' σ Q) : ATK P ops (⟨dst, .indexAddr t x y, ty, pos, after, none⟩ :: r) sl σ Q :=
  ATK_pure (av := .epr cells (i.toNat * sz)) rfl (fun M a w hr => by
    have h1 := ev1 hr hx
    have h2 := ev1 hr hy
    unfold Reps at h1 h2
    obtain ⟨A, c, vs, h1, h3, h4, h5, h6, h7, _⟩ := h1
    obtain ⟨b, o, rfl, hm⟩ := h6.resolve_left (by omega)
    have h8 := fun w => T.sizeOf w
    exact ⟨.pointer (some ⟨b, o + i.toNat * sz, none⟩), fun w' L => by simp [execOp, h1, h2, Instr.indexAt, run_underlying T.und, asIntOf, hi, h8, addr_add], by unfold Reps; exact ⟨b, o, vs, rfl, hm, h7⟩⟩) hs h
theorem ATK_indexAddr_row {t e : TypeId} {sz by_ : Nat} {id : Int} {off n : Nat} {k : IntKind} {i : Int} (hx : aev sl x = .row id off n) (hy : aev sl y = .int k i) [T : TySl P t e sz by_] (hi : 0 ≤ i ∧ i < n) (hs : aput sl dst (.ptr id (off + i.toNat * sz)) = sl') (h : ATK P ops r sl' σ Q) : ATK P ops (⟨dst, .indexAddr t x y, ty, pos, after, none⟩ :: r) sl σ Q :=
  ATK_pure (av := .ptr id (off + i.toNat * sz)) rfl (fun M a w hr => by
    have h1 := ev1 hr hx
    have h2 := ev1 hr hy
    unfold Reps at h1 h2
    obtain ⟨b, h0, h1, _⟩ := h1
    have h8 := fun w => T.sizeOf w
    exact ⟨.pointer (some ⟨b, off + i.toNat * sz, none⟩), fun w' L => by simp [execOp, h1, h2, Instr.indexAt, run_underlying T.und, asIntOf, hi, h8, addr_add], by unfold Reps; exact ⟨b, h0, rfl⟩⟩) hs h
theorem ATK_indexAddr_arr {t e : TypeId} {sz m : Nat} {agg : Bool} {id : Int} {off : Nat} {k : IntKind} {i : Int} (hx : aev sl x = .ptr id off) (hy : aev sl y = .int k i) [T : TyArr P t m e] [V : TyVar P e agg sz] (hi : 0 ≤ i ∧ i < m) (hs : aput sl dst (.ptr id (off + i.toNat * sz)) = sl') (h : ATK P ops r sl' σ Q) : ATK P ops (⟨dst, .indexAddr t x y, ty, pos, after, none⟩ :: r) sl σ Q :=
  ATK_pure (av := .ptr id (off + i.toNat * sz)) rfl (fun M a w hr => by
    have h1 := ev1 hr hx
    have h2 := ev1 hr hy
    unfold Reps at h1 h2
    obtain ⟨b, h0, h1⟩ := h1
    have h8 := fun w => V.sizeOf w
    exact ⟨.pointer (some ⟨b, off + i.toNat * sz, none⟩), fun w' L => by simp [execOp, h1, h2, Instr.indexAt, run_underlying T.und, asIntOf, Instr.sureAddr, hi, h8, addr_add], by unfold Reps; exact ⟨b, h0, rfl⟩⟩) hs h
theorem ATK_index_arr {t e : TypeId} {sz m : Nat} {agg : Bool} {cells : List AV} {k : IntKind} {i : Int} {av : AV} (hx : aev sl x = .agg cells) (hy : aev sl y = .int k i) [T : TyArr P t m e] [V : TyVar P e agg sz] (hi : 0 ≤ i ∧ i < m) (hp : apart agg sz cells (i.toNat * sz) = some av) (hs : aput sl dst av = sl') (h : ATK P ops r sl' σ Q) : ATK P ops (⟨dst, .index t x y, ty, pos, after, none⟩ :: r) sl σ Q :=
  ATK_pure (av := av) rfl (fun M a w hr => by
    have h1 := ev1 hr hx
    have h2 := ev1 hr hy
    unfold Reps at h1 h2
    obtain ⟨vs, h1, h3⟩ := h1
    have h8 := fun w => V.sizeOf w
    obtain ⟨v, h5, h6⟩ := apart_ok V h3 hp
    exact ⟨v, fun w' L => by simp [execOp, h1, h2, Instr.index, run_underlying T.und, asIntOf, hi, h8, h5], h6⟩) hs h
theorem ATK_load_epr {t : TypeId} {agg : Bool} {sz off : Nat} {cells : List AV} {av : AV} (hx : aev sl x = .epr cells off) [T : TyVar P t agg sz] (hp : aload agg sz cells off = some av) (hs : aput sl dst av = sl') (h : ATK P ops r sl' σ Q) : ATK P ops (⟨dst, .load t x, ty, pos, after, none⟩ :: r) sl σ Q :=
  ATK_pure (av := av) rfl (fun M a w hr => by
    have h1 := ev1 hr hx
    unfold Reps at h1
    obtain ⟨b, o, vs, h1, h2, h3⟩ := h1
    obtain ⟨v, h5, h6⟩ := loadVar_ok T h3 (L := Later M w) (fun w' L j u hu => (h2.later L j u hu)) hp
    exact ⟨v, fun w' L => by simp [execOp, h1, Instr.loadAt, Instr.sureAddr, h5 w' L], h6⟩) hs h
theorem ATK_slice_lh {t e : TypeId} {sz by_ : Nat} {own : AOwn} {cells : List AV} {n l m : Nat} {k k' : IntKind} {i j : Int} (hx : aev sl x = .sl own cells n) [T : TySl P t e sz by_] (hy : aev sl y = .int k i) (hz : aev sl z = .int k' j) (hl : i = (l : Int)) (hh : j = (m : Int)) (hlm : l ≤ m ∧ m ≤ n) (hs : aput sl dst (.sl .none ((cells.drop (l * sz)).take ((m - l) * sz)) (m - l)) = sl') (h : ATK P ops r sl' σ Q) : ATK P ops (⟨dst, .slice t x (some y) (some z) none, ty, pos, after, none⟩ :: r) sl σ Q :=
  ATK_pure (av := .sl .none ((cells.drop (l * sz)).take ((m - l) * sz)) (m - l)) rfl (fun M a w hr => by
    have h1 := ev1 hr hx
    have h2 := ev1 hr hy
    have h3 := ev1 hr hz
    unfold Reps at h1 h2 h3
    obtain ⟨A, c, vs, h1, h4, h5, h6, h7, h8, h9, _⟩ := h1
    subst hl hh
    have h10 := fun w => T.sizeOf w
    refine ⟨_, fun w' L => ?_, Reps.cut (own := own) (b := 0) hlm.1 hlm.2 h4 h5 h6 h7 h8⟩
    have h11 : l ≤ m := hlm.1
    have h12 : m ≤ c := by omega
    simp [execOp, h1, h2, h3, Instr.sliceAt, Instr.slice, run_underlying T.und, Instr.sliceBounds, Instr.sliceBound, asIntOf, h11, h12, h10]) hs h
theorem ATK_slice_h {t e : TypeId} {sz by_ : Nat} {own : AOwn} {cells : List AV} {n m : Nat} {k' : IntKind} {j : Int} (hx : aev sl x = .sl own cells n) [T : TySl P t e sz by_] (hz : aev sl z = .int k' j) (hh : j = (m : Int)) (hlm : m ≤ n) (hs : aput sl dst (.sl .none (cells.take (m * sz)) m) = sl') (h : ATK P ops r sl' σ Q) : ATK P ops (⟨dst, .slice t x none (some z) none, ty, pos, after, none⟩ :: r) sl σ Q :=
  ATK_pure (av := .sl .none (cells.take (m * sz)) m) rfl (fun M a w hr => by
    have h1 := ev1 hr hx
    have h3 := ev1 hr hz
    unfold Reps at h1 h3
    obtain ⟨A, c, vs, h1, h4, h5, h6, h7, h8, h9, _⟩ := h1
    subst hh
    have h10 := fun w => T.sizeOf w
    have key := Reps.cut (own := own) (b := 0) (sz := sz) (Nat.zero_le m) hlm h4 h5 h6 h7 h8
    simp only [Nat.zero_mul, List.drop_zero, Nat.sub_zero] at key
    refine ⟨_, fun w' L => ?_, key⟩
    have h12 : m ≤ c := by omega
    have h13 : ¬ c < m := by omega
    simp [execOp, h1, h3, Instr.sliceAt, Instr.slice, run_underlying T.und, Instr.sliceBounds, Instr.sliceBound, asIntOf, h12, h10, h13]) hs h
theorem ATK_slice_l {t e : TypeId} {sz by_ : Nat} {own : AOwn} {cells : List AV} {n l : Nat} {k : IntKind} {i : Int} (hx : aev sl x = .sl own cells n) [T : TySl P t e sz by_] (hy : aev sl y = .int k i) (hl : i = (l : Int)) (hlm : l ≤ n) (hs : aput sl dst (.sl .none ((cells.drop (l * sz)).take ((n - l) * sz)) (n - l)) = sl') (h : ATK P ops r sl' σ Q) : ATK P ops (⟨dst, .slice t x (some y) none none, ty, pos, after, none⟩ :: r) sl σ Q :=
  ATK_pure (av := .sl .none ((cells.drop (l * sz)).take ((n - l) * sz)) (n - l)) rfl (fun M a w hr => by
    have h1 := ev1 hr hx
    have h2 := ev1 hr hy
    unfold Reps at h1 h2
    obtain ⟨A, c, vs, h1, h4, h5, h6, h7, h8, h9, _⟩ := h1
    subst hl
    have h10 := fun w => T.sizeOf w
    refine ⟨_, fun w' L => ?_, Reps.cut (own := own) (b := 0) hlm (Nat.le_refl n) h4 h5 h6 h7 h8⟩
    have h11 : l ≤ n := by omega
    have h13 : ¬ n < l := by omega
    simp [execOp, h1, h2, Instr.sliceAt, Instr.slice, run_underlying T.und, Instr.sliceBounds, Instr.sliceBound, asIntOf, h11, h10, h13]) hs h
theorem ATK_string {src t e : TypeId} {sz by_ : Nat} {own : AOwn} {l : List UInt8} {n : Nat} {cells : List AV} (hx : aev sl x = .sl own cells n) [T : TySl P src e sz by_] [B : TyInt P e .u8] [S : TyStr P t] (hb : cells = l.map bvA) (hl : l.length = n) (hs : aput sl dst (.str l) = sl') (h : ATK P ops r sl' σ Q) : ATK P ops (⟨dst, .convert src t x, ty, pos, after, none⟩ :: r) sl σ Q :=
  ATK_pure (av := .str l) rfl (fun M a w hr => by
    have h1 := ev1 hr hx
    rw [hb] at h1
    obtain ⟨A, c, h2, h3⟩ := h1.rd hl
    have h4 := fun w' (L : Later M w w') => run_string_rd (P := P) T.und B.und S.und (h1.rd_later hl h2 L)
    refine ⟨.string ⟨l.toArray⟩, fun w' L => by simp only [execOp, h2, Sem.run_bind, h4 w' L, Result.andThen_ok, Sem.run_pure], ?_⟩
    unfold Reps
    exact ⟨rfl, by have := h3.cap; have := h3.max; omega⟩) hs h
theorem ATK_string_nils {src t e : TypeId} {sz by_ : Nat} (hx : aev sl x = .nils) [T : TySl P src e sz by_] [B : TyInt P e .u8] [S : TyStr P t] (hs : aput sl dst (.str []) = sl') (h : ATK P ops r sl' σ Q) : ATK P ops (⟨dst, .convert src t x, ty, pos, after, none⟩ :: r) sl σ Q :=
  ATK_pure (av := .str []) rfl (fun M a w hr => by
    have h1 := ev1 hr hx
    unfold Reps at h1
    have h4 := fun w' => run_string_rd (P := P) (w := w') T.und B.und S.und (bs := []) (A := none) (n := 0) (c := 0) ⟨by simp [bvs], Nat.le_refl _, by simp, fun _ => rfl, .inl rfl⟩
    refine ⟨.string ⟨[].toArray⟩, fun w' L => by simp only [execOp, h1, Sem.run_bind, h4, Result.andThen_ok, Sem.run_pure], ?_⟩
    unfold Reps
    exact ⟨rfl, by simp⟩) hs h
theorem ATK_str {op : BinOp} {t t' : TypeId} {s u : List UInt8} {av : AV} (hx : aev sl x = .str s) (hy : aev sl y = .str u) (ho : astr op s u = some av) (hs : aput sl dst av = sl') (h : ATK P ops r sl' σ Q) : ATK P ops (⟨dst, .binOp op t x y t', ty, pos, after, none⟩ :: r) sl σ Q :=
  ATK_pure (av := av) rfl (fun M a w hr => by
    have h1 := ev1 hr hx
    have h2 := ev1 hr hy
    unfold Reps at h1 h2
    obtain ⟨v, h3, h4⟩ := astr_ok (P := P) ho t M w
    exact ⟨v, fun w' L => by simp [execOp, h1.1, h2.1, h3, eqGuard_str], h4⟩) hs h
theorem ATK_iface {t : TypeId} {av : AV} (hx : aev sl x = av) [T : TyConc P t] (hs : aput sl dst (.iface t av) = sl') (h : ATK P ops r sl' σ Q) : ATK P ops (⟨dst, .makeInterface t x, ty, pos, after, none⟩ :: r) sl σ Q :=
  ATK_pure (av := .iface t av) rfl (fun M a w hr => by
    obtain ⟨d, hd, hni⟩ := T.und
    refine ⟨.iface t (a.eval x), fun w L => ?_, by unfold Reps; exact ⟨_, rfl, ev1 hr hx⟩⟩
    have h2 : (Instr.makeInterface t (a.eval x)).run P w = .ok (.iface t (a.eval x)) w := by
      unfold Instr.makeInterface
      simp only [Sem.run_bind, run_underlying hd, Result.andThen_ok]
      cases d <;> first | exact absurd rfl (hni _) | rfl
    simp [execOp, h2]) hs h
theorem ATK_assert_yes {t u : TypeId} {av : AV} (hx : aev sl x = .iface t av) [T : TyConc P t] (hs : aput sl dst (.tup [av, .bool true]) = sl') (h : ATK P ops r sl' σ Q) : ATK P ops (⟨dst, .typeAssert x u t true, ty, pos, after, none⟩ :: r) sl σ Q :=
  ATK_pure (av := .tup [av, .bool true]) rfl (fun M a w hr => by
    have h1 := ev1 hr hx
    unfold Reps at h1
    obtain ⟨v, h1, h2⟩ := h1
    obtain ⟨d, hd, hni⟩ := T.und
    have h3 := fun w => run_typeAssert_yes (P := P) hd hni u v w
    exact ⟨.tuple #[v, .bool true], by simp [execOp, h1, h3], by unfold Reps; exact ⟨_, rfl, RepsL.cons h2 (RepsL.one Reps_bool)⟩⟩) hs h
theorem ATK_extract {cs : List AV} {i : Nat} {av : AV} (hx : aev sl x = .tup cs) (hi : cs[i]? = some av) (hs : aput sl dst av = sl') (h : ATK P ops r sl' σ Q) : ATK P ops (⟨dst, .extract x i, ty, pos, after, none⟩ :: r) sl σ Q :=
  ATK_pure (av := av) rfl (fun M a w hr => by
    have h1 := ev1 hr hx
    unfold Reps at h1
    obtain ⟨vs, h1, h2⟩ := h1
    obtain ⟨v, h3, h4⟩ := h2.get i av hi
    have h5 : vs[i]? = some v := by simpa using h3
    exact ⟨v, fun w' L => by simp [execOp, h1, Instr.extract, h5], h4⟩) hs h
theorem ATK_makeFunc {f : FuncId} {first captured : List Operand} {cs fs : List AV} (h1 : first.map (aev sl) = fs) (h2 : captured.map (aev sl) = cs) (hs : aput sl dst (.fn f fs cs) = sl') (h : ATK P ops r sl' σ Q) : ATK P ops (⟨dst, .makeFunc (.func f) first.toArray captured.toArray, ty, pos, after, none⟩ :: r) sl σ Q :=
  ATK_pure (av := .fn f fs cs) rfl (fun M a w hr => by
    subst h1 h2
    exact ⟨.func (.func f) (first.map a.eval).toArray (captured.map a.eval).toArray, fun w' L => by simp [execOp, Instr.makeFunc], by unfold Reps; exact ⟨_, _, rfl, evs hr first, evs hr captured⟩⟩) hs h
theorem ATK_nilCheck {id : Int} {off : Nat} (hx : aev sl x = .ptr id off) (hs : aput sl dst (.ptr id off) = sl') (h : ATK P ops r sl' σ Q) : ATK P ops (⟨dst, .nilCheck x, ty, pos, after, none⟩ :: r) sl σ Q :=
  ATK_pure (av := .ptr id off) rfl (fun M a w hr => by
    have h1 := ev1 hr hx
    have h2 := h1
    unfold Reps at h1
    obtain ⟨b, h0, h1⟩ := h1
    exact ⟨.pointer (some ⟨b, off, none⟩), fun w' L => by simp [execOp, h1], by rw [← h1]; exact h2⟩) hs h
theorem ATK_build {t : TypeId} {agg : Bool} {zs : List Value} {pl : List (Nat × Nat)} {ps : List (Nat × Operand)} {aps : List (Nat × AV)} {cells : List AV} [T : TyPlaces P t pl] [Z : TyZero P t agg zs] (hp : aparts sl ps = aps) (hf : afill (fun i => pl[i]?) (zs.map cav) aps = some cells) (hs : aput sl dst (.agg cells) = sl') (h : ATK P ops r sl' σ Q) : ATK P ops (⟨dst, .build t ps.toArray, ty, pos, after, none⟩ :: r) sl σ Q :=
  ATK_pure (av := .agg cells) rfl (fun M a w hr => by
    subst hp
    obtain ⟨fs, h1, h2⟩ := T.pl
    obtain ⟨i, z, k1, k2, hzs, _⟩ := Z.zero
    have hz : ∀ w : World, (zeroValue t).run P w = .ok z w := fun w => by simp [zeroValue, typeInfo, k1, k2]
    obtain ⟨vs', h3, h4⟩ := afill_ok (vs := z.cells) (by rw [hzs]; exact cavs_reps zs) (aparts_ok hr ps) hf
    refine ⟨.agg vs', fun w' L => ?_, by unfold Reps; exact ⟨_, rfl, h4⟩⟩
    have h5 := h2 w'
    have h3' : Instr.fill (fun x => pl.toArray[x]?) z.cells (ps.map fun p => (p.1, a.eval p.2)) = some vs' := by simpa using h3
    simp only [execOp, Instr.build, Sem.run_bind, hz, Result.andThen_ok, run_underlying h1, h5, List.map_toArray]
    rw [h3']
    rfl) hs h
theorem TS_move {av : AV} (hx : aevo sl x = some av) (hs : aput sl dst av = sl') (h : ATK P ops r sl' σ Q) : ATK P ops (⟨dst, .move x, ty, pos, after, none⟩ :: r) sl σ Q := ATK_move (aevo_eq hx) hs h
theorem TS_assign {av : AV} (hx : aevo sl x = some av) (hs : aput sl dst av = sl') (h : ATK P ops r sl' σ Q) : ATK P ops (⟨dst, .assign x, ty, pos, after, none⟩ :: r) sl σ Q := ATK_assign (aevo_eq hx) hs h
theorem TS_pick_t {c : Operand} {b : Bool} {av : AV} (hc : aev sl c = .bool b) (hb : b = true) (hx : aevo sl x = some av) (hs : aput sl dst av = sl') (h : ATK P ops r sl' σ Q) : ATK P ops (⟨dst, .pick c x y, ty, pos, after, none⟩ :: r) sl σ Q := ATK_pick_t hc hb (aevo_eq hx) hs h
theorem TS_pick_f {c : Operand} {b : Bool} {av : AV} (hc : aev sl c = .bool b) (hb : b = false) (hx : aevo sl y = some av) (hs : aput sl dst av = sl') (h : ATK P ops r sl' σ Q) : ATK P ops (⟨dst, .pick c x y, ty, pos, after, none⟩ :: r) sl σ Q := ATK_pick_f hc hb (aevo_eq hx) hs h
theorem TS_iface {t : TypeId} {av : AV} (hx : aevo sl x = some av) [T : TyConc P t] (hs : aput sl dst (.iface t av) = sl') (h : ATK P ops r sl' σ Q) : ATK P ops (⟨dst, .makeInterface t x, ty, pos, after, none⟩ :: r) sl σ Q := ATK_iface (aevo_eq hx) hs h
theorem TS_load_epr {t : TypeId} {sz off : Nat} {cells : List AV} {av : AV} (hx : aev sl x = .epr cells off) [T : TyVar P t false sz] (hp : cells[off]? = some av) (hs : aput sl dst av = sl') (h : ATK P ops r sl' σ Q) : ATK P ops (⟨dst, .load t x, ty, pos, after, none⟩ :: r) sl σ Q :=
  ATK_load_epr hx (by simp [aload, hp]) hs h
theorem TS_load_epr_agg {t : TypeId} {sz off : Nat} {cells cs : List AV} (hx : aev sl x = .epr cells off) [T : TyVar P t true sz] (hle : off + sz ≤ cells.length) (hp : (cells.drop off).take sz = cs) (hs : aput sl dst (.agg cs) = sl') (h : ATK P ops r sl' σ Q) : ATK P ops (⟨dst, .load t x, ty, pos, after, none⟩ :: r) sl σ Q :=
  ATK_load_epr hx (by simp only [aload, if_true]; rw [if_pos hle, hp]) hs h
theorem TS_extract {cs : List AV} {i : Nat} {av : AV} (hx : aev sl x = .tup cs) (hi : cs[i]? = some av) (hs : aput sl dst av = sl') (h : ATK P ops r sl' σ Q) : ATK P ops (⟨dst, .extract x i, ty, pos, after, none⟩ :: r) sl σ Q := ATK_extract hx hi hs h
theorem TS_field {t : TypeId} {f off : Nat} {sz : Nat} {cells : List AV} {av : AV} (hx : aev sl x = .agg cells) [T : TyFldS P t f off false sz] (hp : cells[off]? = some av) (hs : aput sl dst av = sl') (h : ATK P ops r sl' σ Q) : ATK P ops (⟨dst, .field t x f, ty, pos, after, none⟩ :: r) sl σ Q := ATK_field hx (by simp [apart, hp]) hs h
theorem TS_add {t t' : TypeId} {m n : Int} (hx : aev sl x = .int .i64 m) (hy : aev sl y = .int .i64 n) (hb : -9223372036854775808 ≤ m + n ∧ m + n ≤ 9223372036854775807) (hs : aput sl dst (.int .i64 (m + n)) = sl') (h : ATK P ops r sl' σ Q) : ATK P ops (⟨dst, .binOp .add t x y t', ty, pos, after, none⟩ :: r) sl σ Q :=
  ATK_bin hx hy (show abin .add .i64 m n = some (.int .i64 (m + n)) by simp only [abin]; rw [show IntKind.i64.wrap (m + n) = m + n by rw [IntKind.wrap_i64]; omega]) hs h
theorem TS_sub {t t' : TypeId} {m n : Int} (hx : aev sl x = .int .i64 m) (hy : aev sl y = .int .i64 n) (hb : -9223372036854775808 ≤ m - n ∧ m - n ≤ 9223372036854775807) (hs : aput sl dst (.int .i64 (m - n)) = sl') (h : ATK P ops r sl' σ Q) : ATK P ops (⟨dst, .binOp .sub t x y t', ty, pos, after, none⟩ :: r) sl σ Q :=
  ATK_bin hx hy (show abin .sub .i64 m n = some (.int .i64 (m - n)) by simp only [abin]; rw [show IntKind.i64.wrap (m - n) = m - n by rw [IntKind.wrap_i64]; omega]) hs h
theorem TS_bin {op : BinOp} {t t' : TypeId} {k : IntKind} {m n : Int} {av : AV} (hx : aev sl x = .int k m) (hy : aev sl y = .int k n) (ho : abin op k m n = some av) (hs : aput sl dst av = sl') (h : ATK P ops r sl' σ Q) : ATK P ops (⟨dst, .binOp op t x y t', ty, pos, after, none⟩ :: r) sl σ Q := ATK_bin hx hy ho hs h
theorem TS_build {t : TypeId} {agg : Bool} {zs : List Value} {pl : List (Nat × Nat)} {ps : List (Nat × Operand)} {cells zc : List AV} [T : TyPlaces P t pl] [Z : TyZero P t agg zs] (hz : zerosF zs 1 = zc) (hf : fillF sl (fun i => pl[i]?) zc ps = some cells) (hs : aput sl dst (.agg cells) = sl') (h : ATK P ops r sl' σ Q) : ATK P ops (⟨dst, .build t ps.toArray, ty, pos, after, none⟩ :: r) sl σ Q := by
  refine ATK_build rfl (cells := cells) (fillF_ok ?_) hs h
  rw [← hf, ← hz]
  simp [zerosF]
theorem TS_load_epr_sub {t : TypeId} {sz off : Nat} {cells cs : List AV} (hx : aev sl x = .epr cells off) [T : TyVar P t true sz] (hp : subF off sz cells = some cs) (hs : aput sl dst (.agg cs) = sl') (h : ATK P ops r sl' σ Q) : ATK P ops (⟨dst, .load t x, ty, pos, after, none⟩ :: r) sl σ Q := by
  obtain ⟨h1, h2⟩ := subF_ok hp
  exact ATK_load_epr hx (by simp only [aload, if_true]; rw [if_pos h2, h1]) hs h
theorem TS_quo {t t' : TypeId} {m n : Int} (hx : aev sl x = .int .i64 m) (hy : aev sl y = .int .i64 n) (hb : 0 ≤ m ∧ m ≤ 9223372036854775807 ∧ 0 < n) (hs : aput sl dst (.int .i64 (m / n)) = sl') (h : ATK P ops r sl' σ Q) : ATK P ops (⟨dst, .binOp .quo t x y t', ty, pos, after, none⟩ :: r) sl σ Q :=
  ATK_bin hx hy (show abin .quo .i64 m n = some (.int .i64 (m / n)) by
    simp only [abin]
    rw [if_neg (by omega), Int.tdiv_eq_ediv_of_nonneg hb.1, show IntKind.i64.wrap (m / n) = m / n by
      rw [IntKind.wrap_i64]
      have h1 : 0 ≤ m / n := Int.ediv_nonneg hb.1 (by omega)
      have h2 : m / n ≤ m := Int.ediv_le_self n hb.1
      omega]) hs h
theorem TS_rem {t t' : TypeId} {m n : Int} (hx : aev sl x = .int .i64 m) (hy : aev sl y = .int .i64 n) (hb : 0 ≤ m ∧ 0 < n) (hs : aput sl dst (.int .i64 (m % n)) = sl') (h : ATK P ops r sl' σ Q) : ATK P ops (⟨dst, .binOp .rem t x y t', ty, pos, after, none⟩ :: r) sl σ Q :=
  ATK_bin hx hy (show abin .rem .i64 m n = some (.int .i64 (m % n)) by
    simp only [abin]
    rw [if_neg (by omega), Int.tmod_eq_emod_of_nonneg hb.1]) hs h
theorem TS_conv_same {src t : TypeId} {n : Int} (hx : aev sl x = .int .i64 n) [T : TyInt P t .i64] [T0 : TyInt P src .i64] (hb : -9223372036854775808 ≤ n ∧ n ≤ 9223372036854775807) (hs : aput sl dst (.int .i64 n) = sl') (h : ATK P ops r sl' σ Q) : ATK P ops (⟨dst, .convert src t x, ty, pos, after, none⟩ :: r) sl σ Q :=
  ATK_conv hx (by rw [show IntKind.i64.wrap n = n by rw [IntKind.wrap_i64]; omega]; exact hs) h
theorem TS_conv_u8 {src t : TypeId} {b : UInt8} (hx : aev sl x = bvA b) [T : TyInt P t .i64] [T0 : TyInt P src .u8] (hs : aput sl dst (.int .i64 (b.toNat : Int)) = sl') (h : ATK P ops r sl' σ Q) : ATK P ops (⟨dst, .convert src t x, ty, pos, after, none⟩ :: r) sl σ Q :=
  ATK_conv (k := .u8) (n := b.toNat) hx (by rw [show IntKind.i64.wrap (b.toNat : Int) = b.toNat by rw [IntKind.wrap_i64]; have := b.toNat_lt; omega]; exact hs) h
theorem TS_conv_byte {src t : TypeId} {n : Int} {k : IntKind} (hx : aev sl x = .int k n) [T : TyInt P t .u8] [T0 : TyInt P src k] (hs : aput sl dst (bvA (UInt8.ofNat (n % 256).toNat)) = sl') (h : ATK P ops r sl' σ Q) : ATK P ops (⟨dst, .convert src t x, ty, pos, after, none⟩ :: r) sl σ Q :=
  ATK_conv hx (by rw [wrap_u8]; exact hs) h
theorem TS_xor8 {ops : Array Oper} {r : List Oper} {t t' : TypeId} {a b : UInt8} (hx : aev sl x = bvA a) (hy : aev sl y = bvA b) (hs : aput sl dst (bvA (a ^^^ b)) = sl') (h : ATK P ops r sl' σ Q) : ATK P ops (⟨dst, .binOp .xor t x y t', ty, pos, after, none⟩ :: r) sl σ Q :=
  ATK_bin (k := .u8) (m := a.toNat) (n := b.toNat) hx hy (by simp only [abin, bits_xor8]; rfl) hs h
theorem TS_eq8 {ops : Array Oper} {r : List Oper} {t t' : TypeId} {a b : UInt8} (hx : aev sl x = bvA a) (hy : aev sl y = bvA b) (hs : aput sl dst (.bool (a == b)) = sl') (h : ATK P ops r sl' σ Q) : ATK P ops (⟨dst, .binOp .eql t x y t', ty, pos, after, none⟩ :: r) sl σ Q :=
  ATK_bin (k := .u8) (m := a.toNat) (n := b.toNat) hx hy (by
    simp only [abin]
    congr 2
    rw [Bool.eq_iff_iff, beq_iff_eq, beq_iff_eq]
    constructor
    · intro h; exact UInt8.toNat_inj.1 (by omega)
    · rintro rfl; rfl) hs h
theorem TS_ne8 {ops : Array Oper} {r : List Oper} {t t' : TypeId} {a b : UInt8} (hx : aev sl x = bvA a) (hy : aev sl y = bvA b) (hs : aput sl dst (.bool (a != b)) = sl') (h : ATK P ops r sl' σ Q) : ATK P ops (⟨dst, .binOp .neq t x y t', ty, pos, after, none⟩ :: r) sl σ Q :=
  ATK_bin (k := .u8) (m := a.toNat) (n := b.toNat) hx hy (by
    simp only [abin]
    congr 2
    rw [Bool.eq_iff_iff, bne_iff_ne, bne_iff_ne]
    constructor
    · rintro h rfl; exact h rfl
    · intro h h2; exact h (UInt8.toNat_inj.1 (by omega))) hs h
theorem TS_indexAddr {ops : Array Oper} {r : List Oper} {t e : TypeId} {sz by_ : Nat} {own : AOwn} {cells : List AV} {n j off : Nat} {k : IntKind} {i : Int} (hx : aev sl x = .sl own cells n) (hy : aev sl y = .int k i) [T : TySl P t e sz by_] (hj : i = (j : Int)) (hi : j < n) (ho : j * sz = off) (hs : aput sl dst (.epr cells off) = sl') (h : ATK P ops r sl' σ Q) : ATK P ops (⟨dst, .indexAddr t x y, ty, pos, after, none⟩ :: r) sl σ Q := by
  subst hj ho
  exact ATK_indexAddr hx hy (by omega) (by simpa using hs) h
theorem TS_load_byte {ops : Array Oper} {r : List Oper} {t : TypeId} {off : Nat} {l : List UInt8} (hx : aev sl x = .epr (l.map bvA) off) [T : TyVar P t false 1] (hlt : off < l.length) (hs : aput sl dst (bvA (l.getD off 0)) = sl') (h : ATK P ops r sl' σ Q) : ATK P ops (⟨dst, .load t x, ty, pos, after, none⟩ :: r) sl σ Q :=
  TS_load_epr hx (by simp [hlt]) hs h
theorem TS_inc8 {ops : Array Oper} {r : List Oper} {t t' : TypeId} {a : UInt8} (hx : aev sl x = bvA a) (hy : aev sl y = .int .u8 1) (hs : aput sl dst (bvA (a + 1)) = sl') (h : ATK P ops r sl' σ Q) : ATK P ops (⟨dst, .binOp .add t x y t', ty, pos, after, none⟩ :: r) sl σ Q :=
  ATK_bin (k := .u8) (m := a.toNat) (n := 1) hx hy (by
    have ha := a.toNat_lt
    have e : ((a + 1 : UInt8).toNat : Int) = ((a.toNat : Int) + 1) % 256 := by rw [UInt8.toNat_add]; rfl
    show some (AV.int .u8 (IntKind.u8.wrap ((a.toNat : Int) + 1))) = some (AV.int .u8 ((a + 1 : UInt8).toNat : Int))
    rw [e, IntKind.wrap_u8]) hs h
theorem TS_mul {ops : Array Oper} {r : List Oper} {t t' : TypeId} {m n : Int} (hx : aev sl x = .int .i64 m) (hy : aev sl y = .int .i64 n) (hb : -9223372036854775808 ≤ m * n ∧ m * n ≤ 9223372036854775807) (hs : aput sl dst (.int .i64 (m * n)) = sl') (h : ATK P ops r sl' σ Q) : ATK P ops (⟨dst, .binOp .mul t x y t', ty, pos, after, none⟩ :: r) sl σ Q :=
  ATK_bin hx hy (by simp only [abin]; rw [IntKind.wrap_i64]; congr 2; omega) hs h
theorem TS_slice8_h {ops : Array Oper} {r : List Oper} {t e : TypeId} {by_ : Nat} {own : AOwn} {l : List UInt8} {n m : Nat} {k' : IntKind} {j : Int} (hx : aev sl x = .sl own (l.map bvA) n) [T : TySl P t e 1 by_] (hz : aev sl z = .int k' j) (hh : j = (m : Int)) (hlm : m ≤ n) (hs : aput sl dst (.sl .none ((l.take m).map bvA) m) = sl') (h : ATK P ops r sl' σ Q) : ATK P ops (⟨dst, .slice t x none (some z) none, ty, pos, after, none⟩ :: r) sl σ Q :=
  ATK_slice_h hx hz hh hlm (by rw [Nat.mul_one, ← List.map_take]; exact hs) h
theorem TS_slice8_lh {ops : Array Oper} {r : List Oper} {t e : TypeId} {by_ : Nat} {own : AOwn} {l : List UInt8} {n i m : Nat} {k k' : IntKind} {i' j : Int} (hx : aev sl x = .sl own (l.map bvA) n) [T : TySl P t e 1 by_] (hy : aev sl y = .int k i') (hz : aev sl z = .int k' j) (hl : i' = (i : Int)) (hh : j = (m : Int)) (hlm : i ≤ m ∧ m ≤ n) (hs : aput sl dst (.sl .none (((l.drop i).take (m - i)).map bvA) (m - i)) = sl') (h : ATK P ops r sl' σ Q) : ATK P ops (⟨dst, .slice t x (some y) (some z) none, ty, pos, after, none⟩ :: r) sl σ Q :=
  ATK_slice_lh hx hy hz hl hh hlm (by rw [Nat.mul_one, Nat.mul_one, ← List.map_drop, ← List.map_take]; exact hs) h
theorem TS_slice8_l {ops : Array Oper} {r : List Oper} {t e : TypeId} {by_ : Nat} {own : AOwn} {l : List UInt8} {n i : Nat} {k : IntKind} {i' : Int} (hx : aev sl x = .sl own (l.map bvA) n) [T : TySl P t e 1 by_] (hy : aev sl y = .int k i') (hl : i' = (i : Int)) (hlm : i ≤ n) (hs : aput sl dst (.sl .none (((l.drop i).take (n - i)).map bvA) (n - i)) = sl') (h : ATK P ops r sl' σ Q) : ATK P ops (⟨dst, .slice t x (some y) none none, ty, pos, after, none⟩ :: r) sl σ Q :=
  ATK_slice_l hx hy hl hlm (by rw [Nat.mul_one, Nat.mul_one, ← List.map_drop, ← List.map_take]; exact hs) h
theorem TS_min {ops : Array Oper} {r : List Oper} {t t' : TypeId} {k : IntKind} {m n : Int} (hx : aev sl x = .int k m) (hy : aev sl y = .int k n) (hs : aput sl dst (.int k (min m n)) = sl') (h : ATK P ops r sl' σ Q) : ATK P ops (⟨dst, .call { callee := .builtin .min, args := #[x, y], argTypes := #[t, t'] }, ty, pos, after, none⟩ :: r) sl σ Q :=
  ATK_pure (av := .int k (min m n)) rfl (fun M a w hr => by
    have h1 := ev1 hr hx
    have h2 := ev1 hr hy
    unfold Reps at h1 h2
    refine ⟨.int k (min m n), fun w' _ => ?_, Reps_int⟩
    by_cases hlt : n < m
    · rw [show min m n = n by omega]
      simp [execOp, h1, h2, resolve, invoke, builtin, Builtin.min_, Builtin.min2, hlt]
    · rw [show min m n = m by omega]
      simp [execOp, h1, h2, resolve, invoke, builtin, Builtin.min_, Builtin.min2, hlt]) hs h
theorem TS_max {ops : Array Oper} {r : List Oper} {t t' : TypeId} {k : IntKind} {m n : Int} (hx : aev sl x = .int k m) (hy : aev sl y = .int k n) (hs : aput sl dst (.int k (max m n)) = sl') (h : ATK P ops r sl' σ Q) : ATK P ops (⟨dst, .call { callee := .builtin .max, args := #[x, y], argTypes := #[t, t'] }, ty, pos, after, none⟩ :: r) sl σ Q :=
  ATK_pure (av := .int k (max m n)) rfl (fun M a w hr => by
    have h1 := ev1 hr hx
    have h2 := ev1 hr hy
    unfold Reps at h1 h2
    refine ⟨.int k (max m n), fun w' _ => ?_, Reps_int⟩
    by_cases hlt : n > m
    · rw [show max m n = n by omega]
      simp [execOp, h1, h2, resolve, invoke, builtin, Builtin.max_, Builtin.max2, hlt]
    · rw [show max m n = m by omega]
      simp [execOp, h1, h2, resolve, invoke, builtin, Builtin.max_, Builtin.max2, hlt]) hs h
theorem TS_len_isB {ops : Array Oper} {r : List Oper} {t : TypeId} {a : AV} {l : List UInt8} (hx : aev sl x = a) (hb : IsB a l) {e : TypeId} {sz by_ : Nat} [T : TySl P t e sz by_] (hs : aput sl dst (.int .i64 l.length) = sl') (h : ATK P ops r sl' σ Q) : ATK P ops (⟨dst, .call { callee := .builtin .len, args := #[x], argTypes := #[t] }, ty, pos, after, none⟩ :: r) sl σ Q := by
  rcases hb with ⟨rfl, rfl⟩ | ⟨own, rfl⟩
  · exact ATK_len_nils hx hs h
  · exact ATK_len_sl hx hs h
theorem TS_string_isB {ops : Array Oper} {r : List Oper} {src t e : TypeId} {by_ : Nat} {a : AV} {l : List UInt8} (hx : aev sl x = a) (hb : IsB a l) [T : TySl P src e 1 by_] [B : TyInt P e .u8] [S : TyStr P t] (hs : aput sl dst (.str l) = sl') (h : ATK P ops r sl' σ Q) : ATK P ops (⟨dst, .convert src t x, ty, pos, after, none⟩ :: r) sl σ Q := by
  rcases hb with ⟨rfl, rfl⟩ | ⟨own, rfl⟩
  · exact ATK_string_nils hx hs h
  · exact ATK_string hx rfl rfl hs h
theorem TS_indexAddr_isB {ops : Array Oper} {r : List Oper} {t e : TypeId} {by_ : Nat} {a : AV} {l : List UInt8} {j : Nat} {k : IntKind} {i : Int} (hx : aev sl x = a) (hb : IsB a l) (hy : aev sl y = .int k i) [T : TySl P t e 1 by_] (hj : i = (j : Int)) (hi : j < l.length) (hs : aput sl dst (.epr (l.map bvA) j) = sl') (h : ATK P ops r sl' σ Q) : ATK P ops (⟨dst, .indexAddr t x y, ty, pos, after, none⟩ :: r) sl σ Q := by
  rcases hb with ⟨rfl, rfl⟩ | ⟨own, rfl⟩
  · simp at hi
  · exact TS_indexAddr hx hy hj hi (by simp) hs h
end Go.Proofs.Ytnjkklkjlloedaa
/-! The abstract machine: calls that see a part of the store, under other numbers. -/
namespace Go.Proofs.Ytnjkklkjlloedaa
open Go.RowKit
set_option linter.unusedVariables false
set_option linter.unusedSimpArgs false
variable {base : Nat} {Fi : Int → Prop} {M M1 M2 : MM} {w w' : World}
variable {P : Program} {σ σ' : ASt}

def AOwn.ren (ρ : Int → Int) : AOwn → AOwn
  | .tok id top sz => .tok (ρ id) top sz
  | o => o
def AOwn.ids (p : Int → Bool) : AOwn → Bool
  | .tok id _ _ => p id
  | _ => true
mutual
/-- The same under other numbers. -/
def AV.ren (ρ : Int → Int) : AV → AV
  | .sl own cells n => .sl (own.ren ρ) (AV.renL ρ cells) n
  | .epr cells n => .epr (AV.renL ρ cells) n
  | .fn f a b => .fn f (AV.renL ρ a) (AV.renL ρ b)
  | .iface t a => .iface t (a.ren ρ)
  | .agg cs => .agg (AV.renL ρ cs)
  | .tup cs => .tup (AV.renL ρ cs)
  | .ptr i o => .ptr (ρ i) o
  | .row i o n => .row (ρ i) o n
  | .buf i o n c => .buf (ρ i) o n c
  | .map i => .map (ρ i)
  | .any => .any
  | .und => .und
  | .int k n => .int k n
  | .bool b => .bool b
  | .str s => .str s
  | .nilp => .nilp
  | .nils => .nils
  | .nilm => .nilm
  | .nili => .nili
def AV.renL (ρ : Int → Int) : List AV → List AV
  | [] => []
  | a :: r => a.ren ρ :: AV.renL ρ r
end
mutual
/-- All numbers in it are of this kind. -/
def AV.ids (p : Int → Bool) : AV → Bool
  | .sl own cells n => own.ids p && AV.idsL p cells
  | .epr cells n => AV.idsL p cells
  | .fn f a b => AV.idsL p a && AV.idsL p b
  | .iface t a => a.ids p
  | .agg cs => AV.idsL p cs
  | .tup cs => AV.idsL p cs
  | .ptr i o => p i
  | .row i o n => p i
  | .buf i o n c => p i
  | .map i => p i
  | _ => true
def AV.idsL (p : Int → Bool) : List AV → Bool
  | [] => true
  | a :: r => a.ids p && AV.idsL p r
end
theorem AV.renL_length (ρ : Int → Int) : ∀ l : List AV, (AV.renL ρ l).length = l.length
  | [] => rfl
  | a :: r => by simp [AV.renL, AV.renL_length ρ r]
mutual
theorem AV.ren_shut (ρ : Int → Int) : ∀ a : AV, a.shut = true → a.ren ρ = a
  | .sl own cells n, h => by
    cases own with
    | tok => simp [AV.shut] at h
    | none => unfold AV.ren; rw [AV.renL_shut ρ cells (by simpa [AV.shut] using h)]; rfl
    | full => unfold AV.ren; rw [AV.renL_shut ρ cells (by simpa [AV.shut] using h)]; rfl
  | .epr cells n, h => by unfold AV.ren; rw [AV.renL_shut ρ cells (by simpa [AV.shut] using h)]
  | .fn f a b, h => by
    simp only [AV.shut, Bool.and_eq_true] at h
    unfold AV.ren; rw [AV.renL_shut ρ a h.1, AV.renL_shut ρ b h.2]
  | .iface t a, h => by unfold AV.ren; rw [AV.ren_shut ρ a (by simpa [AV.shut] using h)]
  | .agg cs, h => by unfold AV.ren; rw [AV.renL_shut ρ cs (by simpa [AV.shut] using h)]
  | .tup cs, h => by unfold AV.ren; rw [AV.renL_shut ρ cs (by simpa [AV.shut] using h)]
  | .ptr _ _, h => by simp [AV.shut] at h
  | .row _ _ _, h => by simp [AV.shut] at h
  | .buf _ _ _ _, h => by simp [AV.shut] at h
  | .map _, h => by simp [AV.shut] at h
  | .any, _ => by unfold AV.ren; rfl
  | .und, _ => by unfold AV.ren; rfl
  | .int _ _, _ => by unfold AV.ren; rfl
  | .bool _, _ => by unfold AV.ren; rfl
  | .str _, _ => by unfold AV.ren; rfl
  | .nilp, _ => by unfold AV.ren; rfl
  | .nils, _ => by unfold AV.ren; rfl
  | .nilm, _ => by unfold AV.ren; rfl
  | .nili, _ => by unfold AV.ren; rfl
theorem AV.renL_shut (ρ : Int → Int) : ∀ l : List AV, AV.shutL l = true → AV.renL ρ l = l
  | [], _ => rfl
  | a :: r, h => by
    simp only [AV.shutL, Bool.and_eq_true] at h
    unfold AV.renL; rw [AV.ren_shut ρ a h.1, AV.renL_shut ρ r h.2]
end
mutual
theorem AV.ids_shut (p : Int → Bool) : ∀ a : AV, a.shut = true → a.ids p = true
  | .sl own cells n, h => by
    cases own with
    | tok => simp [AV.shut] at h
    | none => unfold AV.ids; rw [AV.idsL_shut p cells (by simpa [AV.shut] using h)]; rfl
    | full => unfold AV.ids; rw [AV.idsL_shut p cells (by simpa [AV.shut] using h)]; rfl
  | .epr cells n, h => by unfold AV.ids; rw [AV.idsL_shut p cells (by simpa [AV.shut] using h)]
  | .fn f a b, h => by
    simp only [AV.shut, Bool.and_eq_true] at h
    unfold AV.ids; rw [AV.idsL_shut p a h.1, AV.idsL_shut p b h.2]; rfl
  | .iface t a, h => by unfold AV.ids; rw [AV.ids_shut p a (by simpa [AV.shut] using h)]
  | .agg cs, h => by unfold AV.ids; rw [AV.idsL_shut p cs (by simpa [AV.shut] using h)]
  | .tup cs, h => by unfold AV.ids; rw [AV.idsL_shut p cs (by simpa [AV.shut] using h)]
  | .ptr _ _, h => by simp [AV.shut] at h
  | .row _ _ _, h => by simp [AV.shut] at h
  | .buf _ _ _ _, h => by simp [AV.shut] at h
  | .map _, h => by simp [AV.shut] at h
  | .any, _ => by unfold AV.ids; rfl
  | .und, _ => by unfold AV.ids; rfl
  | .int _ _, _ => by unfold AV.ids; rfl
  | .bool _, _ => by unfold AV.ids; rfl
  | .str _, _ => by unfold AV.ids; rfl
  | .nilp, _ => by unfold AV.ids; rfl
  | .nils, _ => by unfold AV.ids; rfl
  | .nilm, _ => by unfold AV.ids; rfl
  | .nili, _ => by unfold AV.ids; rfl
theorem AV.idsL_shut (p : Int → Bool) : ∀ l : List AV, AV.shutL l = true → AV.idsL p l = true
  | [], _ => rfl
  | a :: r, h => by
    simp only [AV.shutL, Bool.and_eq_true] at h
    unfold AV.idsL; rw [AV.ids_shut p a h.1, AV.idsL_shut p r h.2]; rfl
end
structure Conv (M1 M2 : MM) (ρ : Int → Int) (p : Int → Bool) : Prop where
  ob : ∀ i b, p i = true → M1.ob i = some b → M2.ob (ρ i) = some b
  tk : ∀ i T, p i = true → M1.tk i = some T → M2.tk (ρ i) = some T
  st : ∀ b j, stab M1 b j → stab M2 b j
mutual
/-- Under other numbers. -/
theorem Reps.conv {ρ : Int → Int} {p : Int → Bool} (h : Conv M1 M2 ρ p) : ∀ (a : AV) (v : Value), a.ids p = true → Reps M1 w a v → Reps M2 w (a.ren ρ) v
  | .sl own cells n, v, hs, hr => by
    simp only [AV.ids, Bool.and_eq_true] at hs
    simp only [AV.ren] at hr ⊢
    unfold Reps at hr ⊢
    obtain ⟨A, c, vs, h1, h2, h3, h4, h5, h6, h7, h8⟩ := hr
    refine ⟨A, c, vs, h1, h2, h3, h4, h5.imp (fun h => h) fun ⟨b, o, hA, hm⟩ => ⟨b, o, hA, fun j u hu => ⟨(hm j u hu).1, h.st _ _ (hm j u hu).2⟩⟩, RepsL.conv h cells vs hs.2 h6, fun h0 => ?_, ?_⟩
    · have := congrArg List.length (h7 h0)
      simp only [AV.renL_length, List.length_nil] at this
      exact List.eq_nil_of_length_eq_zero (by simpa [AV.renL_length] using this)
    · cases own with
      | none => trivial
      | full => exact h8
      | tok id top sz =>
        simp only [AOwn.ids] at hs
        simp only [AOwn.ren, OwnOk] at h8 ⊢
        obtain ⟨T, k1, k2, k3, k4, k5⟩ := h8
        exact ⟨T, h.tk id T hs.1 k1, k2, k3, by simpa [AV.renL_length] using k4, fun e => by have := k5 e; revert this; cases T.blk <;> simp [AV.renL_length]⟩
  | .epr cells n, v, hs, hr => by
    simp only [AV.ids] at hs
    simp only [AV.ren] at hr ⊢
    unfold Reps at hr ⊢
    obtain ⟨b, o, vs, h1, h2, h3⟩ := hr
    exact ⟨b, o, vs, h1, fun j u hu => ⟨(h2 j u hu).1, h.st _ _ (h2 j u hu).2⟩, RepsL.conv h cells vs hs h3⟩
  | .fn f a b, v, hs, hr => by
    simp only [AV.ids, Bool.and_eq_true] at hs
    simp only [AV.ren] at hr ⊢
    unfold Reps at hr ⊢
    obtain ⟨fs, cs, h1, h2, h3⟩ := hr
    exact ⟨fs, cs, h1, RepsL.conv h a _ hs.1 h2, RepsL.conv h b _ hs.2 h3⟩
  | .iface t a, v, hs, hr => by
    simp only [AV.ids] at hs
    simp only [AV.ren] at hr ⊢
    unfold Reps at hr ⊢
    obtain ⟨u, h1, h2⟩ := hr
    exact ⟨u, h1, Reps.conv h a u hs h2⟩
  | .agg cs, v, hs, hr => by
    simp only [AV.ids] at hs
    simp only [AV.ren] at hr ⊢
    unfold Reps at hr ⊢
    obtain ⟨vs, h1, h2⟩ := hr
    exact ⟨vs, h1, RepsL.conv h cs _ hs h2⟩
  | .tup cs, v, hs, hr => by
    simp only [AV.ids] at hs
    simp only [AV.ren] at hr ⊢
    unfold Reps at hr ⊢
    obtain ⟨vs, h1, h2⟩ := hr
    exact ⟨vs, h1, RepsL.conv h cs _ hs h2⟩
  | .ptr i o, v, hs, hr => by
    simp only [AV.ids] at hs
    simp only [AV.ren] at hr ⊢
    unfold Reps at hr ⊢
    obtain ⟨b, h1, h2⟩ := hr
    exact ⟨b, h.ob i b hs h1, h2⟩
  | .row i o n, v, hs, hr => by
    simp only [AV.ids] at hs
    simp only [AV.ren] at hr ⊢
    unfold Reps at hr ⊢
    obtain ⟨b, h1, h2⟩ := hr
    exact ⟨b, h.ob i b hs h1, h2⟩
  | .buf i o n c, v, hs, hr => by
    simp only [AV.ids] at hs
    simp only [AV.ren] at hr ⊢
    unfold Reps at hr ⊢
    obtain ⟨b, h1, h2⟩ := hr
    exact ⟨b, h.ob i b hs h1, h2⟩
  | .map i, v, hs, hr => by
    simp only [AV.ids] at hs
    simp only [AV.ren] at hr ⊢
    unfold Reps at hr ⊢
    obtain ⟨b, h1, h2⟩ := hr
    exact ⟨b, h.ob i b hs h1, h2⟩
  | .any, v, _, hr => by simp only [AV.ren] at hr ⊢; unfold Reps at hr ⊢; exact hr
  | .und, v, _, hr => by simp only [AV.ren] at hr ⊢; unfold Reps at hr ⊢; exact hr
  | .int _ _, v, _, hr => by simp only [AV.ren] at hr ⊢; unfold Reps at hr ⊢; exact hr
  | .bool _, v, _, hr => by simp only [AV.ren] at hr ⊢; unfold Reps at hr ⊢; exact hr
  | .str _, v, _, hr => by simp only [AV.ren] at hr ⊢; unfold Reps at hr ⊢; exact hr
  | .nilp, v, _, hr => by simp only [AV.ren] at hr ⊢; unfold Reps at hr ⊢; exact hr
  | .nils, v, _, hr => by simp only [AV.ren] at hr ⊢; unfold Reps at hr ⊢; exact hr
  | .nilm, v, _, hr => by simp only [AV.ren] at hr ⊢; unfold Reps at hr ⊢; exact hr
  | .nili, v, _, hr => by simp only [AV.ren] at hr ⊢; unfold Reps at hr ⊢; exact hr
theorem RepsL.conv {ρ : Int → Int} {p : Int → Bool} (h : Conv M1 M2 ρ p) : ∀ (l : List AV) (vs : List Value), AV.idsL p l = true → RepsL M1 w l vs → RepsL M2 w (AV.renL ρ l) vs
  | [], vs, _, hr => by simp only [AV.renL] at hr ⊢; unfold RepsL at hr ⊢; exact hr
  | a :: r, vs, hs, hr => by
    simp only [AV.idsL, Bool.and_eq_true] at hs
    simp only [AV.renL] at hr ⊢
    unfold RepsL at hr ⊢
    obtain ⟨v, vr, h1, h2, h3⟩ := hr
    exact ⟨v, vr, h1, Reps.conv h a v hs.1 h2, RepsL.conv h r vr hs.2 h3⟩
end
structure Vnoc (M1 M2 : MM) (ρ : Int → Int) (p : Int → Bool) : Prop where
  ob : ∀ i b, p i = true → M1.ob (ρ i) = some b → M2.ob i = some b
  tk : ∀ i T, p i = true → M1.tk (ρ i) = some T → M2.tk i = some T
  st : ∀ b j, stab M1 b j → stab M2 b j
mutual
/-- And back. -/
theorem Reps.vnoc {ρ : Int → Int} {p : Int → Bool} (h : Vnoc M1 M2 ρ p) : ∀ (a : AV) (v : Value), a.ids p = true → Reps M1 w (a.ren ρ) v → Reps M2 w a v
  | .sl own cells n, v, hs, hr => by
    simp only [AV.ids, Bool.and_eq_true] at hs
    simp only [AV.ren] at hr ⊢
    unfold Reps at hr ⊢
    obtain ⟨A, c, vs, h1, h2, h3, h4, h5, h6, h7, h8⟩ := hr
    refine ⟨A, c, vs, h1, h2, h3, h4, h5.imp (fun h => h) fun ⟨b, o, hA, hm⟩ => ⟨b, o, hA, fun j u hu => ⟨(hm j u hu).1, h.st _ _ (hm j u hu).2⟩⟩, RepsL.vnoc h cells vs hs.2 h6, fun h0 => ?_, ?_⟩
    · have := congrArg List.length (h7 h0)
      simp only [AV.renL_length, List.length_nil] at this
      exact List.eq_nil_of_length_eq_zero (by simpa [AV.renL_length] using this)
    · cases own with
      | none => trivial
      | full => exact h8
      | tok id top sz =>
        simp only [AOwn.ids] at hs
        simp only [AOwn.ren, OwnOk] at h8 ⊢
        obtain ⟨T, k1, k2, k3, k4, k5⟩ := h8
        exact ⟨T, h.tk id T hs.1 k1, k2, k3, by simpa [AV.renL_length] using k4, fun e => by have := k5 e; revert this; cases T.blk <;> simp [AV.renL_length]⟩
  | .epr cells n, v, hs, hr => by
    simp only [AV.ids] at hs
    simp only [AV.ren] at hr ⊢
    unfold Reps at hr ⊢
    obtain ⟨b, o, vs, h1, h2, h3⟩ := hr
    exact ⟨b, o, vs, h1, fun j u hu => ⟨(h2 j u hu).1, h.st _ _ (h2 j u hu).2⟩, RepsL.vnoc h cells vs hs h3⟩
  | .fn f a b, v, hs, hr => by
    simp only [AV.ids, Bool.and_eq_true] at hs
    simp only [AV.ren] at hr ⊢
    unfold Reps at hr ⊢
    obtain ⟨fs, cs, h1, h2, h3⟩ := hr
    exact ⟨fs, cs, h1, RepsL.vnoc h a _ hs.1 h2, RepsL.vnoc h b _ hs.2 h3⟩
  | .iface t a, v, hs, hr => by
    simp only [AV.ids] at hs
    simp only [AV.ren] at hr ⊢
    unfold Reps at hr ⊢
    obtain ⟨u, h1, h2⟩ := hr
    exact ⟨u, h1, Reps.vnoc h a u hs h2⟩
  | .agg cs, v, hs, hr => by
    simp only [AV.ids] at hs
    simp only [AV.ren] at hr ⊢
    unfold Reps at hr ⊢
    obtain ⟨vs, h1, h2⟩ := hr
    exact ⟨vs, h1, RepsL.vnoc h cs _ hs h2⟩
  | .tup cs, v, hs, hr => by
    simp only [AV.ids] at hs
    simp only [AV.ren] at hr ⊢
    unfold Reps at hr ⊢
    obtain ⟨vs, h1, h2⟩ := hr
    exact ⟨vs, h1, RepsL.vnoc h cs _ hs h2⟩
  | .ptr i o, v, hs, hr => by
    simp only [AV.ids] at hs
    simp only [AV.ren] at hr ⊢
    unfold Reps at hr ⊢
    obtain ⟨b, h1, h2⟩ := hr
    exact ⟨b, h.ob i b hs h1, h2⟩
  | .row i o n, v, hs, hr => by
    simp only [AV.ids] at hs
    simp only [AV.ren] at hr ⊢
    unfold Reps at hr ⊢
    obtain ⟨b, h1, h2⟩ := hr
    exact ⟨b, h.ob i b hs h1, h2⟩
  | .buf i o n c, v, hs, hr => by
    simp only [AV.ids] at hs
    simp only [AV.ren] at hr ⊢
    unfold Reps at hr ⊢
    obtain ⟨b, h1, h2⟩ := hr
    exact ⟨b, h.ob i b hs h1, h2⟩
  | .map i, v, hs, hr => by
    simp only [AV.ids] at hs
    simp only [AV.ren] at hr ⊢
    unfold Reps at hr ⊢
    obtain ⟨b, h1, h2⟩ := hr
    exact ⟨b, h.ob i b hs h1, h2⟩
  | .any, v, _, hr => by simp only [AV.ren] at hr ⊢; unfold Reps at hr ⊢; exact hr
  | .und, v, _, hr => by simp only [AV.ren] at hr ⊢; unfold Reps at hr ⊢; exact hr
  | .int _ _, v, _, hr => by simp only [AV.ren] at hr ⊢; unfold Reps at hr ⊢; exact hr
  | .bool _, v, _, hr => by simp only [AV.ren] at hr ⊢; unfold Reps at hr ⊢; exact hr
  | .str _, v, _, hr => by simp only [AV.ren] at hr ⊢; unfold Reps at hr ⊢; exact hr
  | .nilp, v, _, hr => by simp only [AV.ren] at hr ⊢; unfold Reps at hr ⊢; exact hr
  | .nils, v, _, hr => by simp only [AV.ren] at hr ⊢; unfold Reps at hr ⊢; exact hr
  | .nilm, v, _, hr => by simp only [AV.ren] at hr ⊢; unfold Reps at hr ⊢; exact hr
  | .nili, v, _, hr => by simp only [AV.ren] at hr ⊢; unfold Reps at hr ⊢; exact hr
theorem RepsL.vnoc {ρ : Int → Int} {p : Int → Bool} (h : Vnoc M1 M2 ρ p) : ∀ (l : List AV) (vs : List Value), AV.idsL p l = true → RepsL M1 w (AV.renL ρ l) vs → RepsL M2 w l vs
  | [], vs, _, hr => by simp only [AV.renL] at hr ⊢; unfold RepsL at hr ⊢; exact hr
  | a :: r, vs, hs, hr => by
    simp only [AV.idsL, Bool.and_eq_true] at hs
    simp only [AV.renL] at hr ⊢
    unfold RepsL at hr ⊢
    obtain ⟨v, vr, h1, h2, h3⟩ := hr
    exact ⟨v, vr, h1, Reps.vnoc h a v hs.1 h2, RepsL.vnoc h r vr hs.2 h3⟩
end
end Go.Proofs.Ytnjkklkjlloedaa
/-! The abstract machine: a call that sees a part of the store. -/
namespace Go.Proofs.Ytnjkklkjlloedaa
open Go.RowKit
set_option linter.unusedVariables false
set_option linter.unusedSimpArgs false
variable {base : Nat} {Fi : Int → Prop} {M : MM} {w w' : World}
variable {P : Program} {σ : ASt}

def inK (k : Int) (i : Int) : Bool := decide (0 ≤ i) && decide (i < k)
def nonneg (i : Int) : Bool := decide (0 ≤ i)
theorem inK_iff {k i : Int} : inK k i = true ↔ 0 ≤ i ∧ i < k := by simp [inK]
theorem nonneg_iff {i : Int} : nonneg i = true ↔ 0 ≤ i := by simp [nonneg]
/-- The caller's numbers of what the call names by the numbers from 0 on. -/
def rho (k : Int) (f : Int → Int) (n : Int) (i : Int) : Int := if i < k then f i else i - k + n
structure Moved (k top : Int) (f : Int → Int) (σ σ1 σ2 : ASt) : Prop where
  objs : ∀ j c, alook σ2.objs j = some c → (∃ i c1, 0 ≤ i ∧ i < top ∧ rho k f σ.next i = j ∧ alook σ1.objs i = some c1 ∧ AV.idsL (inK top) c1 = true ∧ c = AV.renL (rho k f σ.next) c1) ∨ (alook σ.objs j = some c ∧ ∀ i, 0 ≤ i → i < k → f i ≠ j)
  toks : ∀ j t, alook σ2.toks j = some t → (∃ i, 0 ≤ i ∧ i < top ∧ rho k f σ.next i = j ∧ alook σ1.toks i = some t) ∨ (alook σ.toks j = some t ∧ ∀ i, 0 ≤ i → i < k → f i ≠ j)
  next : top - k + σ.next ≤ σ2.next

open Classical in
/-- The caller's map seen from the call. -/
noncomputable def MM.inn (M : MM) (k : Int) (f : Int → Int) (n : Int) : MM :=
  ⟨fun i => if inK k i = true then M.ob (f i) else if i < 0 ∧ ¬ (∃ i', 0 ≤ i' ∧ i' < k ∧ f i' = i + n) then M.ob (i + n) else Option.none,
   fun i => if inK k i = true then M.tk (f i) else if i < 0 ∧ ¬ (∃ i', 0 ≤ i' ∧ i' < k ∧ f i' = i + n) then M.tk (i + n) else Option.none,
   fun i => if inK k i = true then M.fz (f i) else if i < 0 ∧ ¬ (∃ i', 0 ≤ i' ∧ i' < k ∧ f i' = i + n) then M.fz (i + n) else False⟩
open Classical in
/-- And the call's seen from the caller, behind it. -/
noncomputable def MM.out (M M1 : MM) (k : Int) (f : Int → Int) (n top : Int) : MM :=
  ⟨fun j => if h : ∃ i, 0 ≤ i ∧ i < k ∧ f i = j then M1.ob (Classical.choose h) else if j < n then M.ob j else if j - n + k < top then M1.ob (j - n + k) else Option.none,
   fun j => if h : ∃ i, 0 ≤ i ∧ i < k ∧ f i = j then M1.tk (Classical.choose h) else if j < n then M.tk j else if j - n + k < top then M1.tk (j - n + k) else Option.none,
   fun j => if h : ∃ i, 0 ≤ i ∧ i < k ∧ f i = j then M1.fz (Classical.choose h) else if j < n then M.fz j else if j - n + k < top then M1.fz (j - n + k) else False⟩

section
variable {M1 : MM} {k n top : Int} {f : Int → Int}
theorem inn_in {i : Int} (h : 0 ≤ i ∧ i < k) : (M.inn k f n).ob i = M.ob (f i) ∧ (M.inn k f n).tk i = M.tk (f i) ∧ (M.inn k f n).fz i = M.fz (f i) := by
  have := inK_iff.2 h
  simp [MM.inn, this]
theorem inn_far {j : Int} (hj : j < n) (hv : ¬ ∃ i, 0 ≤ i ∧ i < k ∧ f i = j) : (M.inn k f n).ob (j - n) = M.ob j ∧ (M.inn k f n).tk (j - n) = M.tk j ∧ (M.inn k f n).fz (j - n) = M.fz j := by
  have h0 : ¬ inK k (j - n) = true := by rw [inK_iff]; omega
  have h1 : j - n < 0 ∧ ¬ (∃ i', 0 ≤ i' ∧ i' < k ∧ f i' = (j - n) + n) := ⟨by omega, by rw [Int.sub_add_cancel]; exact hv⟩
  simp only [MM.inn, if_neg h0, if_pos h1, Int.sub_add_cancel, and_self]
theorem inn_cases (i : Int) : (0 ≤ i ∧ i < k) ∨ (∃ j, i = j - n ∧ j < n ∧ ¬ ∃ i, 0 ≤ i ∧ i < k ∧ f i = j) ∨ ((M.inn k f n).ob i = Option.none ∧ (M.inn k f n).tk i = Option.none ∧ ¬ (M.inn k f n).fz i) := by
  by_cases h : inK k i = true
  · exact .inl (inK_iff.1 h)
  · by_cases h2 : i < 0 ∧ ¬ (∃ i', 0 ≤ i' ∧ i' < k ∧ f i' = i + n)
    · exact .inr (.inl ⟨i + n, by omega, by omega, h2.2⟩)
    · refine .inr (.inr ?_)
      simp only [MM.inn, if_neg h, if_neg h2, not_false_eq_true, and_self]
theorem out_in (hinj : ∀ i i', 0 ≤ i → i < k → 0 ≤ i' → i' < k → f i = f i' → i = i') {i : Int} (h : 0 ≤ i ∧ i < k) : (M.out M1 k f n top).ob (f i) = M1.ob i ∧ (M.out M1 k f n top).tk (f i) = M1.tk i ∧ (M.out M1 k f n top).fz (f i) = M1.fz i := by
  have hx : ∃ i', 0 ≤ i' ∧ i' < k ∧ f i' = f i := ⟨i, h.1, h.2, rfl⟩
  have hc := Classical.choose_spec hx
  have he := hinj _ _ hc.1 hc.2.1 h.1 h.2 hc.2.2
  simp only [MM.out, dif_pos hx]
  rw [he]
  exact ⟨rfl, rfl, rfl⟩
theorem out_far {j : Int} (hj : j < n) (hv : ¬ ∃ i, 0 ≤ i ∧ i < k ∧ f i = j) : (M.out M1 k f n top).ob j = M.ob j ∧ (M.out M1 k f n top).tk j = M.tk j ∧ (M.out M1 k f n top).fz j = M.fz j := by
  simp only [MM.out, dif_neg hv, if_pos hj, and_self]
theorem out_new (hf : ∀ i, 0 ≤ i → i < k → f i < n) {j : Int} (hj : n ≤ j) (ht : j - n + k < top) : (M.out M1 k f n top).ob j = M1.ob (j - n + k) ∧ (M.out M1 k f n top).tk j = M1.tk (j - n + k) ∧ (M.out M1 k f n top).fz j = M1.fz (j - n + k) := by
  have hv : ¬ ∃ i, 0 ≤ i ∧ i < k ∧ f i = j := by rintro ⟨i, h1, h2, rfl⟩; have := hf i h1 h2; omega
  simp only [MM.out, dif_neg hv, if_neg (show ¬ j < n by omega), if_pos ht, and_self]
theorem out_gone (hf : ∀ i, 0 ≤ i → i < k → f i < n) {j : Int} (hj : n ≤ j) (ht : ¬ j - n + k < top) : (M.out M1 k f n top).ob j = Option.none ∧ (M.out M1 k f n top).tk j = Option.none ∧ ¬ (M.out M1 k f n top).fz j := by
  have hv : ¬ ∃ i, 0 ≤ i ∧ i < k ∧ f i = j := by rintro ⟨i, h1, h2, rfl⟩; have := hf i h1 h2; omega
  simp only [MM.out, dif_neg hv, if_neg (show ¬ j < n by omega), if_neg ht, not_false_eq_true, and_self]
/-- A number that the call knows. -/
theorem out_rho (hf : ∀ i, 0 ≤ i → i < k → f i < n) (hinj : ∀ i i', 0 ≤ i → i < k → 0 ≤ i' → i' < k → f i = f i' → i = i') {i : Int} (h : 0 ≤ i) (hit : i < top) : (M.out M1 k f n top).ob (rho k f n i) = M1.ob i ∧ (M.out M1 k f n top).tk (rho k f n i) = M1.tk i ∧ (M.out M1 k f n top).fz (rho k f n i) = M1.fz i := by
  unfold rho
  by_cases hk : i < k
  · rw [if_pos hk]; exact out_in hinj ⟨h, hk⟩
  · rw [if_neg hk]
    have := out_new (M := M) (M1 := M1) (top := top) hf (show n ≤ i - k + n by omega) (by omega)
    rw [show i - k + n - n + k = i by omega] at this
    exact this
/-- Each of the caller's numbers is the call's rho of one, or far. -/
theorem out_cases (hkt : k ≤ top) (hk0 : 0 ≤ k) (j : Int) : (∃ i, 0 ≤ i ∧ i < top ∧ rho k f n i = j ∧ (i < k ∨ n ≤ j)) ∨ (j < n ∧ ¬ ∃ i, 0 ≤ i ∧ i < k ∧ f i = j) ∨ (n ≤ j ∧ ¬ j - n + k < top) := by
  by_cases hv : ∃ i, 0 ≤ i ∧ i < k ∧ f i = j
  · obtain ⟨i, h1, h2, h3⟩ := hv
    exact .inl ⟨i, h1, by omega, by unfold rho; rw [if_pos h2, h3], .inl h2⟩
  · by_cases hj : j < n
    · exact .inr (.inl ⟨hj, hv⟩)
    · by_cases h0 : j - n + k < top
      · exact .inl ⟨j - n + k, by omega, h0, by unfold rho; rw [if_neg (by omega)]; omega, .inr (by omega)⟩
      · exact .inr (.inr ⟨by omega, h0⟩)
end
/-! ### The call -/
theorem inn_val {n k : Int} {f : Int → Int} {i : Int} {b : Nat} (h : (M.inn k f n).ob i = some b) : ∃ j, M.ob j = some b ∧ (((0 ≤ i ∧ i < k) ∧ j = f i) ∨ (i = j - n ∧ j < n ∧ ¬ ∃ i, 0 ≤ i ∧ i < k ∧ f i = j)) := by
  rcases inn_cases (M := M) (k := k) (f := f) (n := n) i with hi | ⟨j, rfl, hj, hv⟩ | ⟨h1, _⟩
  · exact ⟨f i, by rw [← (inn_in hi).1]; exact h, .inl ⟨hi, rfl⟩⟩
  · exact ⟨j, by rw [← (inn_far hj hv).1]; exact h, .inr ⟨rfl, hj, hv⟩⟩
  · rw [h1] at h; cases h
theorem inn_valt {n k : Int} {f : Int → Int} {i : Int} {T : Tk} (h : (M.inn k f n).tk i = some T) : ∃ j, M.tk j = some T ∧ (((0 ≤ i ∧ i < k) ∧ j = f i) ∨ (i = j - n ∧ j < n ∧ ¬ ∃ i, 0 ≤ i ∧ i < k ∧ f i = j)) := by
  rcases inn_cases (M := M) (k := k) (f := f) (n := n) i with hi | ⟨j, rfl, hj, hv⟩ | ⟨_, h1, _⟩
  · exact ⟨f i, by rw [← (inn_in hi).2.1]; exact h, .inl ⟨hi, rfl⟩⟩
  · exact ⟨j, by rw [← (inn_far hj hv).2.1]; exact h, .inr ⟨rfl, hj, hv⟩⟩
  · rw [h1] at h; cases h
theorem inn_one {n k : Int} {f : Int → Int} (hinj : ∀ i i', 0 ≤ i → i < k → 0 ≤ i' → i' < k → f i = f i' → i = i') {i i' j : Int} (h : ((0 ≤ i ∧ i < k) ∧ j = f i) ∨ (i = j - n ∧ j < n ∧ ¬ ∃ i, 0 ≤ i ∧ i < k ∧ f i = j)) (h' : ((0 ≤ i' ∧ i' < k) ∧ j = f i') ∨ (i' = j - n ∧ j < n ∧ ¬ ∃ i, 0 ≤ i ∧ i < k ∧ f i = j)) : i = i' := by
  rcases h with ⟨h1, h2⟩ | ⟨h1, h2, h3⟩ <;> rcases h' with ⟨k1, k2⟩ | ⟨k1, k2, k3⟩
  · exact hinj _ _ h1.1 h1.2 k1.1 k1.2 (h2.symm.trans k2)
  · exact absurd ⟨i, h1.1, h1.2, h2.symm⟩ k3
  · exact absurd ⟨i', k1.1, k1.2, k2.symm⟩ h3
  · omega
theorem ACalls.move {g : FuncId} {args0 : List AV} {σ0 : ASt} {K0 K : AV → ASt → Prop} (h : ACalls P g args0 σ0 K0) (k : Int) (hk0 : 0 ≤ k) (hkn : σ0.next = k) (f : Int → Int) (hf : ∀ i, 0 ≤ i → i < k → f i < σ.next)
    (hinj : ∀ i i', 0 ≤ i → i < k → 0 ≤ i' → i' < k → f i = f i' → i = i')
    (ho : ∀ i c, alook σ0.objs i = some c → (0 ≤ i ∧ i < k) ∧ AV.idsL (inK k) c = true ∧ alook σ.objs (f i) = some (AV.renL (rho k f σ.next) c))
    (ht : ∀ i t, alook σ0.toks i = some t → (0 ≤ i ∧ i < k) ∧ alook σ.toks (f i) = some t)
    (ha : AV.idsL (inK k) args0 = true)
    (hK : ∀ rv0 σ1, K0 rv0 σ1 → ∃ top, rv0.ids (inK top) = true ∧ k ≤ top ∧ ∃ σ2, Moved k top f σ σ1 σ2 ∧ K (rv0.ren (rho k f σ.next)) σ2) : ACalls P g (AV.renL (rho k f σ.next) args0) σ K := by
  intro base Fi M w vs S hr
  generalize hn : σ.next = n at *
  have lt : ∀ id b, M.ob id = some b → id < n := fun id b hb => Int.lt_of_not_ge fun hle => by rw [(S.fresh id (by omega)).1] at hb; cases hb
  have ltk : ∀ id T, M.tk id = some T → id < n := fun id T hb => Int.lt_of_not_ge fun hle => by rw [(S.fresh id (by omega)).2.1] at hb; cases hb
  have hst0 : ∀ b j, stab M b j → stab (M.inn k f n) b j := by
    intro b j hs
    refine ⟨fun i hb => ?_, fun i T e ce h1 h2 => ?_⟩
    · obtain ⟨j', h1, h2⟩ := inn_val hb
      have h3 := hs.1 _ h1
      rcases h2 with ⟨h4, rfl⟩ | ⟨rfl, h4, h5⟩
      · rw [(inn_in h4).2.2]; exact h3
      · rw [(inn_far h4 h5).2.2]; exact h3
    · obtain ⟨j', h3, h4⟩ := inn_valt h1
      exact hs.2 _ _ _ _ h3 h2
  have V : Vnoc M (M.inn k f n) (rho k f n) (inK k) := by
    refine ⟨fun i b hp hb => ?_, fun i T hp hb => ?_, hst0⟩
    · have hi := inK_iff.1 hp
      rw [(inn_in hi).1]; unfold rho at hb; rwa [if_pos hi.2] at hb
    · have hi := inK_iff.1 hp
      rw [(inn_in hi).2.1]; unfold rho at hb; rwa [if_pos hi.2] at hb
  let Fi0 : Int → Prop := fun i => i < 0 ∨ ((0 ≤ i ∧ i < k) ∧ Fi (f i))
  have nFi0 : ∀ i, 0 ≤ i ∧ i < k → ¬ Fi (f i) → ¬ Fi0 i := fun i hi hF hh => by
    rcases hh with hh | hh
    · omega
    · exact hF hh.2
  have S0 : St base Fi0 (M.inn k f n) w σ0 := by
    refine ⟨S.base_le, fun i c hl => ?_, fun i t hl => ?_, fun i sh kvs hl => ?_, fun i i' b h1 h2 => ?_, fun i i' b T e ce h1 h2 => ?_, fun i i' T T' b e ce e' ce' h1 h2 h3 h4 => ?_, fun i b h1 => ?_, fun i T b e ce h1 h2 => ?_, fun i hi => ?_⟩
    · obtain ⟨h1, h2, h3⟩ := ho i c hl
      obtain ⟨⟨h4, h5⟩, b, us, e, h6, h7, h8, h9⟩ := S.obs _ _ h3
      exact ⟨⟨nFi0 i h1 h4, by rw [(inn_in h1).2.2]; exact h5⟩, b, us, e, by rw [(inn_in h1).1]; exact h6, h7, h8, RepsL.vnoc V c _ h2 h9⟩
    · obtain ⟨h1, h3⟩ := ht i _ hl
      obtain ⟨h4, T, h5, h6, h7⟩ := S.tks _ _ h3
      exact ⟨nFi0 i h1 h4, T, by rw [(inn_in h1).2.1]; exact h5, h6, h7⟩
    · obtain ⟨h1, h3⟩ := ht i _ hl
      obtain ⟨⟨h4, h5⟩, h6⟩ := S.mps _ _ _ h3
      exact ⟨⟨nFi0 i h1 h4, by rw [(inn_in h1).2.2]; exact h5⟩, h6.map (fun b hb => by rw [(inn_in h1).1]; exact hb) (fun _ _ _ g _ => g) fun x v hx hv => Reps.vnoc V x v (AV.ids_shut _ _ hx) (by rw [AV.ren_shut _ _ hx]; exact hv)⟩
    · obtain ⟨j, g1, g2⟩ := inn_val h1
      obtain ⟨j', g3, g4⟩ := inn_val h2
      obtain rfl := S.inj _ _ _ g1 g3
      exact inn_one hinj g2 g4
    · obtain ⟨j, g1, g2⟩ := inn_val h1
      obtain ⟨j', g3, g4⟩ := inn_valt h2
      exact S.dis _ _ _ _ _ _ g1 g3
    · obtain ⟨j, g1, g2⟩ := inn_valt h1
      obtain ⟨j', g3, g4⟩ := inn_valt h2
      obtain rfl := S.tinj _ _ _ _ _ _ _ _ _ g1 g3 h3 h4
      exact inn_one hinj g2 g4
    · obtain ⟨j, g1, g2⟩ := inn_val h1
      exact S.obsz _ _ g1
    · obtain ⟨j, g1, g2⟩ := inn_valt h1
      exact S.tksz _ _ _ _ _ g1 h2
    · rw [hkn] at hi
      have hF : ¬ Fi0 i := by rintro (hh | hh) <;> omega
      rcases inn_cases (M := M) (k := k) (f := f) (n := n) i with h1 | ⟨j, rfl, hj, hv⟩ | ⟨h1, h2, h3⟩
      · omega
      · omega
      · exact ⟨h1, h2, hF, h3⟩
  refine (h base Fi0 (M.inn k f n) w vs S0 (RepsL.vnoc V args0 vs ha hr)).mono ?_
  rintro e w' ⟨rv, σ1, M1, v, hk, he, hv, S1, T⟩
  obtain ⟨top, hids, hkle, σ2, mv, hK2⟩ := hK _ _ hk
  have far : ∀ j, j < n → (¬ ∃ i, 0 ≤ i ∧ i < k ∧ f i = j) → (∀ b, M.ob j = some b → M1.ob (j - n) = some b) ∧ (∀ T, M.tk j = some T → M1.tk (j - n) = some T) ∧ (M1.fz (j - n) → M.fz j) := by
    intro j hj hv
    obtain ⟨h1, h2, h3⟩ := inn_far (M := M) (k := k) (f := f) hj hv
    refine ⟨fun b hb => T.ob _ _ (by rw [h1]; exact hb), fun T0 hT => ?_, fun hz => ?_⟩
    · obtain ⟨T1, g1, _, g3⟩ := T.tk _ _ (by rw [h2]; exact hT)
      rcases g3 with rfl | ⟨_, g3⟩
      · exact g1
      · exact absurd (Or.inl (by omega)) g3
    · rw [← h3]; exact T.ffz _ (.inl (by omega)) hz
  have val : ∀ j b, (M.out M1 k f n top).ob j = some b → ∃ i, M1.ob i = some b ∧ (((0 ≤ i ∧ i < top) ∧ rho k f n i = j) ∨ (i = j - n ∧ j < n ∧ ¬ ∃ i, 0 ≤ i ∧ i < k ∧ f i = j)) := by
    intro j b hb
    rcases out_cases (k := k) (f := f) (n := n) hkle hk0 j with ⟨i, h1, h1', rfl, _⟩ | ⟨h1, h2⟩ | ⟨h1, h2⟩
    · exact ⟨i, by rw [← (out_rho hf hinj h1 h1').1]; exact hb, .inl ⟨⟨h1, h1'⟩, rfl⟩⟩
    · exact ⟨j - n, (far j h1 h2).1 b (by rw [← (out_far h1 h2).1]; exact hb), .inr ⟨rfl, h1, h2⟩⟩
    · rw [(out_gone hf h1 h2).1] at hb; cases hb
  have valt : ∀ j b, (M.out M1 k f n top).tk j = some b → ∃ i, M1.tk i = some b ∧ (((0 ≤ i ∧ i < top) ∧ rho k f n i = j) ∨ (i = j - n ∧ j < n ∧ ¬ ∃ i, 0 ≤ i ∧ i < k ∧ f i = j)) := by
    intro j b hb
    rcases out_cases (k := k) (f := f) (n := n) hkle hk0 j with ⟨i, h1, h1', rfl, _⟩ | ⟨h1, h2⟩ | ⟨h1, h2⟩
    · exact ⟨i, by rw [← (out_rho hf hinj h1 h1').2.1]; exact hb, .inl ⟨⟨h1, h1'⟩, rfl⟩⟩
    · exact ⟨j - n, (far j h1 h2).2.1 b (by rw [← (out_far h1 h2).2.1]; exact hb), .inr ⟨rfl, h1, h2⟩⟩
    · rw [(out_gone hf h1 h2).2.1] at hb; cases hb
  have one : ∀ i j j', (((0 ≤ i ∧ i < top) ∧ rho k f n i = j) ∨ (i = j - n ∧ j < n ∧ ¬ ∃ i, 0 ≤ i ∧ i < k ∧ f i = j)) → (((0 ≤ i ∧ i < top) ∧ rho k f n i = j') ∨ (i = j' - n ∧ j' < n ∧ ¬ ∃ i, 0 ≤ i ∧ i < k ∧ f i = j')) → j = j' := by
    rintro i j j' (⟨h1, rfl⟩ | ⟨h1, h2, h3⟩) (⟨k1, k2⟩ | ⟨k1, k2, k3⟩)
    · exact k2
    · omega
    · omega
    · omega
  have hst : ∀ b j, stab M1 b j → stab (M.out M1 k f n top) b j := by
    intro b j hs
    refine ⟨fun jj hb => ?_, fun jj T0 e' ce h1 h2 => ?_⟩
    · obtain ⟨i, h1, h2⟩ := val jj b hb
      have h3 := hs.1 _ h1
      rcases h2 with ⟨h4, rfl⟩ | ⟨rfl, h4, h5⟩
      · rw [(out_rho hf hinj h4.1 h4.2).2.2]; exact h3
      · rw [(out_far h4 h5).2.2]; exact (far jj h4 h5).2.2 h3
    · obtain ⟨i, h3, h4⟩ := valt jj T0 h1
      exact hs.2 _ _ _ _ h3 h2
  have C : Conv M1 (M.out M1 k f n top) (rho k f n) (inK top) := ⟨fun i b hp hb => by rw [(out_rho hf hinj (inK_iff.1 hp).1 (inK_iff.1 hp).2).1]; exact hb, fun i T0 hp hb => by rw [(out_rho hf hinj (inK_iff.1 hp).1 (inK_iff.1 hp).2).2.1]; exact hb, hst⟩
  have TT : Stp base Fi M w (M.out M1 k f n top) w' := by
    refine ⟨T.os, T.tape, T.output, T.size, T.below, fun id b hb => ?_, fun id T0 h0 => ?_, fun b j v hs hc => ?_, fun id b hF hb => ?_, fun id hF hz => ?_, fun id T0 b e' ce hF h0 hb => ?_⟩
    · by_cases hvis : ∃ i, 0 ≤ i ∧ i < k ∧ f i = id
      · obtain ⟨i, h1, h2, rfl⟩ := hvis
        rw [(out_in hinj ⟨h1, h2⟩).1]
        exact T.ob _ _ (by rw [(inn_in ⟨h1, h2⟩).1]; exact hb)
      · rw [(out_far (lt _ _ hb) hvis).1]; exact hb
    · by_cases hvis : ∃ i, 0 ≤ i ∧ i < k ∧ f i = id
      · obtain ⟨i, h1, h2, rfl⟩ := hvis
        rw [(out_in hinj ⟨h1, h2⟩).2.1]
        obtain ⟨T1, g1, g2, g3⟩ := T.tk i T0 (by rw [(inn_in ⟨h1, h2⟩).2.1]; exact h0)
        exact ⟨T1, g1, g2, g3.imp (fun h => h) fun ⟨a, b⟩ => ⟨a, fun hF => b (.inr ⟨⟨h1, h2⟩, hF⟩)⟩⟩
      · rw [(out_far (ltk _ _ h0) hvis).2.1]; exact ⟨T0, h0, rfl, .inl rfl⟩
    · obtain ⟨h1, h2⟩ := T.cell b j v (hst0 b j hs) hc
      exact ⟨h1, hst b j h2⟩
    · by_cases hvis : ∃ i, 0 ≤ i ∧ i < k ∧ f i = id
      · obtain ⟨i, h1, h2, rfl⟩ := hvis
        exact T.fob i b (.inr ⟨⟨h1, h2⟩, hF⟩) (by rw [(inn_in ⟨h1, h2⟩).1]; exact hb)
      · have hlt := lt _ _ hb
        exact T.fob (id - n) b (.inl (by omega)) (by rw [(inn_far hlt hvis).1]; exact hb)
    · have hltn : id < n := Int.lt_of_not_ge fun hle => (S.fresh id (by omega)).2.2.1 hF
      by_cases hvis : ∃ i, 0 ≤ i ∧ i < k ∧ f i = id
      · obtain ⟨i, h1, h2, rfl⟩ := hvis
        rw [(out_in hinj ⟨h1, h2⟩).2.2] at hz
        have := T.ffz i (.inr ⟨⟨h1, h2⟩, hF⟩) hz
        rwa [(inn_in ⟨h1, h2⟩).2.2] at this
      · rwa [(out_far hltn hvis).2.2] at hz
    · by_cases hvis : ∃ i, 0 ≤ i ∧ i < k ∧ f i = id
      · obtain ⟨i, h1, h2, rfl⟩ := hvis
        exact T.ftk i T0 b e' ce (.inr ⟨⟨h1, h2⟩, hF⟩) (by rw [(inn_in ⟨h1, h2⟩).2.1]; exact h0) hb
      · have hlt := ltk _ _ h0
        exact T.ftk (id - n) T0 b e' ce (.inl (by omega)) (by rw [(inn_far hlt hvis).2.1]; exact h0) hb
  have nF : ∀ i, 0 ≤ i → ¬ Fi0 i → ¬ Fi (rho k f n i) := by
    intro i hi hF
    unfold rho
    by_cases hik : i < k
    · rw [if_pos hik]; exact fun hh => hF (.inr ⟨⟨hi, hik⟩, hh⟩)
    · rw [if_neg hik]; exact (S.fresh _ (by omega)).2.2.1
  refine ⟨rv.ren (rho k f n), σ2, M.out M1 k f n top, v, hK2, he, Reps.conv C rv v hids hv, ?_, TT⟩
  have mvo := mv.objs
  have mvt := mv.toks
  have mvn := mv.next
  rw [hn] at mvo mvt mvn
  refine ⟨S1.base_le, fun j c hl => ?_, fun j t hl => ?_, fun j sh kvs hl => ?_, fun j j' b h1 h2 => ?_, fun j j' b T0 e' ce h1 h2 => ?_, fun j j' T0 T1 b e1 ce1 e2 ce2 h1 h2 h3 h4 => ?_, fun j b h1 => ?_, fun j T0 b e' ce h1 h2 => ?_, fun j hj => ?_⟩
  · rcases mvo j c hl with ⟨i, c1, hi, hit, rfl, h1, h2, rfl⟩ | ⟨h1, h2⟩
    · obtain ⟨⟨g1, g2⟩, b, us, e', g3, g4, g5, g6⟩ := S1.obs i c1 h1
      exact ⟨⟨nF i hi g1, by rw [(out_rho hf hinj hi hit).2.2]; exact g2⟩, b, us, e', by rw [(out_rho hf hinj hi hit).1]; exact g3, g4, g5, RepsL.conv C c1 _ h2 g6⟩
    · obtain ⟨⟨g1, g2⟩, b, us, e', g3, g4, g5, g6⟩ := S.obs j c h1
      have hlt := lt _ _ g3
      have hvis : ¬ ∃ i, 0 ≤ i ∧ i < k ∧ f i = j := fun ⟨i, a1, a2, a3⟩ => h2 i a1 a2 a3
      exact ⟨⟨g1, by rw [(out_far hlt hvis).2.2]; exact g2⟩, b, us, e', by rw [(out_far hlt hvis).1]; exact g3, g4, by rw [T.fob (j - n) b (.inl (by omega)) (by rw [(inn_far hlt hvis).1]; exact g3)]; exact g5, RepsL.stp TT _ _ g6⟩
  · rcases mvt j _ hl with ⟨i, hi, hit, rfl, h1⟩ | ⟨h1, h2⟩
    · obtain ⟨g1, T1, g2, g3, g4⟩ := S1.tks i t h1
      exact ⟨nF i hi g1, T1, by rw [(out_rho hf hinj hi hit).2.1]; exact g2, g3, g4⟩
    · obtain ⟨g1, T1, g2, g3, g4⟩ := S.tks j t h1
      have hlt := ltk _ _ g2
      have hvis : ¬ ∃ i, 0 ≤ i ∧ i < k ∧ f i = j := fun ⟨i, a1, a2, a3⟩ => h2 i a1 a2 a3
      refine ⟨g1, T1, by rw [(out_far hlt hvis).2.1]; exact g2, g3, fun b e' ce hb => ?_⟩
      obtain ⟨g5, g6⟩ := g4 b e' ce hb
      have hB := T.ftk (j - n) T1 b e' ce (.inl (by omega)) (by rw [(inn_far hlt hvis).2.1]; exact g2) hb
      exact ⟨g5, g6.heap hB⟩
  · rcases mvt j _ hl with ⟨i, hi, hit, rfl, h1⟩ | ⟨h1, h2⟩
    · obtain ⟨⟨g1, g2⟩, g3⟩ := S1.mps i sh kvs h1
      exact ⟨⟨nF i hi g1, by rw [(out_rho hf hinj hi hit).2.2]; exact g2⟩, g3.map (fun b hb => by rw [(out_rho hf hinj hi hit).1]; exact hb) (fun _ _ _ g _ => g) fun x v hx hv => by
        have := Reps.conv C x v (AV.ids_shut _ _ hx) hv
        rwa [AV.ren_shut _ _ hx] at this⟩
    · obtain ⟨⟨g1, g2⟩, g3⟩ := S.mps j sh kvs h1
      have hvis : ¬ ∃ i, 0 ≤ i ∧ i < k ∧ f i = j := fun ⟨i, a1, a2, a3⟩ => h2 i a1 a2 a3
      obtain ⟨b0, _, hb0, _⟩ := g3
      have hlt := lt _ _ hb0
      exact ⟨⟨g1, by rw [(out_far hlt hvis).2.2]; exact g2⟩, (S.mps j sh kvs h1).2.stp TT fun b o k1 k2 _ => by rw [T.fob (j - n) b (.inl (by omega)) (by rw [(inn_far hlt hvis).1]; exact k1)]; exact k2⟩
  · obtain ⟨i, g1, g2⟩ := val j b h1
    obtain ⟨i', g3, g4⟩ := val j' b h2
    obtain rfl := S1.inj _ _ _ g1 g3
    exact one _ _ _ g2 g4
  · obtain ⟨i, g1, g2⟩ := val j b h1
    obtain ⟨i', g3, g4⟩ := valt j' T0 h2
    exact S1.dis _ _ _ _ _ _ g1 g3
  · obtain ⟨i, g1, g2⟩ := valt j T0 h1
    obtain ⟨i', g3, g4⟩ := valt j' T1 h2
    obtain rfl := S1.tinj _ _ _ _ _ _ _ _ _ g1 g3 h3 h4
    exact one _ _ _ g2 g4
  · obtain ⟨i, g1, g2⟩ := val j b h1
    exact S1.obsz _ _ g1
  · obtain ⟨i, g1, g2⟩ := valt j T0 h1
    exact S1.tksz _ _ _ _ _ g1 h2
  · have hjn : n ≤ j := by omega
    obtain ⟨g1, g2, g3⟩ := out_gone (M := M) (M1 := M1) hf hjn (show ¬ j - n + k < top by omega)
    exact ⟨g1, g2, (S.fresh j (by omega)).2.2.1, g3⟩
end Go.Proofs.Ytnjkklkjlloedaa
/-! The abstract machine: methods of one object, and functions that make one. -/
namespace Go.Proofs.Ytnjkklkjlloedaa
open Go.RowKit
set_option linter.unusedVariables false
set_option linter.unusedSimpArgs false
variable {base : Nat} {Fi : Int → Prop} {M : MM} {w w' : World}
variable {P : Program} {ops : Array Oper} {r : List Oper} {sl sl' : List AV} {σ σ' : ASt} {Q : Exit → List AV → ASt → Prop}
variable {dst : Option Tmp} {ty : TypeId} {pos : String} {after : Array Edge} {objs : List (Int × List AV)} {toks : List (Int × Tq)} {next : Int}

/-- What is known of the store, weakened. -/
structure AWeak (σ1 σ : ASt) : Prop where
  objs : ∀ id c, alook σ1.objs id = some c → ∃ c0, alook σ.objs id = some c0 ∧ (c = c0 ∨ c = AV.fgL c0)
  toks : ∀ id t, alook σ1.toks id = some t → alook σ.toks id = some t
  next : σ.next ≤ σ1.next
theorem St.weak (S : St base Fi M w σ) {σ1 : ASt} (h : AWeak σ1 σ) : St base Fi M w σ1 := by
  refine ⟨S.base_le, fun id c hl => ?_, fun id t hl => S.tks id t (h.toks id _ hl), fun id sh kvs hl => S.mps id sh kvs (h.toks id _ hl), S.inj, S.dis, S.tinj, S.obsz, S.tksz, fun id hid => S.fresh id (Int.le_trans h.next hid)⟩
  obtain ⟨c0, h1, h2⟩ := h.objs id c hl
  obtain ⟨g1, b, us, e, g2, g3, g4, g5⟩ := S.obs id c0 h1
  refine ⟨g1, b, us, e, g2, g3, g4, ?_⟩
  rcases h2 with rfl | rfl
  · exact g5
  · exact RepsL.fg _ _ g5
theorem ACalls.weak {f : FuncId} {args : List AV} {K K' : AV → ASt → Prop} (h : ACalls P f args σ K) (hk : ∀ r σ', K r σ' → ∃ r1 σ1, (r1 = r ∨ r1 = r.fg) ∧ AWeak σ1 σ' ∧ K' r1 σ1) : ACalls P f args σ K' := by
  intro base Fi M w vs S hr
  refine (h base Fi M w vs S hr).mono ?_
  rintro e w' ⟨r, σ', M', v, h1, h2, h3, h4, h5⟩
  obtain ⟨r1, σ1, k1, k2, k3⟩ := hk _ _ h1
  refine ⟨r1, σ1, M', v, k3, h2, ?_, h4.weak k2, h5⟩
  rcases k1 with rfl | rfl
  · exact h3
  · exact Reps.fg _ _ h3

/-- A method of an object: what it answers, and the object behind it. -/
def AMth (P : Program) (f : FuncId) (cells args : List AV) (R : AV) (cells' : List AV) : Prop :=
  ∀ (id : Int) (σ : ASt), alook σ.objs id = some cells → alook σ.toks id = none → id < σ.next → ACalls P f (.ptr id 0 :: args) σ (fun rv σ' => rv = R ∧ σ' = ⟨aset σ.objs id cells', σ.toks, σ.next⟩)
theorem AMth.mk {f : FuncId} {cells args cells' : List AV} {R : AV} (hA : AV.shutL args = true) (hC : AV.shutL cells = true) (hR : R.shut = true) (hC' : AV.shutL cells' = true)
    (h : ACalls P f (.ptr 0 0 :: args) ⟨[(0, cells)], [], 1⟩ (fun rv σ1 => (rv = R ∨ rv.fg = R) ∧ 1 ≤ σ1.next ∧ ∃ c1, alook σ1.objs 0 = some c1 ∧ (c1 = cells' ∨ AV.fgL c1 = cells'))) : AMth P f cells args R cells' := by
  intro id σ hl htk hlt
  have h1 : ACalls P f (.ptr 0 0 :: args) ⟨[(0, cells)], [], 1⟩ (fun rv σ1 => rv = R ∧ 1 ≤ σ1.next ∧ σ1.objs = [(0, cells')] ∧ σ1.toks = []) := by
    refine h.weak ?_
    rintro r σ' ⟨g1, g2, c1, g3, g4⟩
    refine ⟨R, ⟨[(0, cells')], [], σ'.next⟩, ?_, ⟨fun id c hl => ?_, fun id t hl => by simp [alook] at hl, Int.le_refl _⟩, rfl, g2, rfl, rfl⟩
    · rcases g1 with g1 | g1
      · exact .inl g1.symm
      · exact .inr g1.symm
    · simp only [alook] at hl
      split at hl
      · rename_i h0
        subst h0
        cases hl
        exact ⟨c1, g3, by rcases g4 with g4 | g4; exact .inl g4.symm; exact .inr g4.symm⟩
      · cases hl
  have hargs : AV.renL (rho 1 (fun _ => id) σ.next) (.ptr 0 0 :: args) = .ptr id 0 :: args := by
    unfold AV.renL
    rw [AV.renL_shut _ _ hA]
    unfold AV.ren
    rfl
  have := ACalls.move (σ := σ) (K := fun rv σ' => rv = R ∧ σ' = ⟨aset σ.objs id cells', σ.toks, σ.next⟩) h1 1 (by omega) rfl (fun _ => id) (fun _ _ _ => hlt) (fun i i' _ _ _ _ _ => by omega) (fun i c hl' => ?_) (fun i t hl' => by simp [alook] at hl') ?_ ?_
  · rwa [hargs] at this
  · simp only [alook] at hl'
    split at hl'
    · rename_i h0
      subst h0
      cases hl'
      exact ⟨by omega, AV.idsL_shut _ _ hC, by rw [AV.renL_shut _ _ hC]; exact hl⟩
    · cases hl'
  · unfold AV.idsL
    rw [AV.idsL_shut _ _ hA]
    unfold AV.ids
    rfl
  · rintro rv σ1 ⟨rfl, g1, g2, g3⟩
    refine ⟨1, AV.ids_shut _ _ hR, Int.le_refl _, ⟨aset σ.objs id cells', σ.toks, σ.next⟩, ⟨fun j c hj => ?_, fun j t hj => ?_, by show 1 - 1 + σ.next ≤ σ.next; omega⟩, AV.ren_shut _ _ hR, rfl⟩
    · simp only [alook_aset] at hj
      split at hj
      · rename_i h0
        subst h0
        rw [hl] at hj
        simp only [Option.map_some, Option.some.injEq] at hj
        subst hj
        exact .inl ⟨0, cells', by omega, by omega, rfl, by rw [g2]; rfl, AV.idsL_shut _ _ hC', by rw [AV.renL_shut _ _ hC']⟩
      · rename_i h0
        exact .inr ⟨hj, fun i _ _ => h0⟩
    · refine .inr ⟨hj, fun i _ _ h0 => ?_⟩
      subst h0
      rw [htk] at hj; cases hj
/-- A function that makes an object, as its d-th thing. -/
def ANew (P : Program) (f : FuncId) (args cells : List AV) (d : Int) : Prop := ∀ σ, ACalls P f args σ (fun rv σ' => rv = .ptr (d + σ.next) 0 ∧ σ' = ⟨(d + σ.next, cells) :: σ.objs, σ.toks, d + 1 + σ.next⟩)
theorem ANew.mk {f : FuncId} {args cells : List AV} {d : Int} (hd : 0 ≤ d) (hA : AV.shutL args = true) (hC : AV.shutL cells = true)
    (h : ACalls P f args ⟨[], [], 0⟩ (fun rv σ1 => rv = .ptr d 0 ∧ ∃ c1, alook σ1.objs d = some c1 ∧ (c1 = cells ∨ AV.fgL c1 = cells))) : ANew P f args cells d := by
  intro σ
  have h1 : ACalls P f args ⟨[], [], 0⟩ (fun rv σ1 => rv = .ptr d 0 ∧ σ1.objs = [(d, cells)] ∧ σ1.toks = []) := by
    refine h.weak ?_
    rintro r σ' ⟨rfl, c1, g3, g4⟩
    refine ⟨.ptr d 0, ⟨[(d, cells)], [], σ'.next⟩, .inl rfl, ⟨fun id c hl => ?_, fun id t hl => by simp [alook] at hl, Int.le_refl _⟩, rfl, rfl, rfl⟩
    simp only [alook] at hl
    split at hl
    · rename_i h0
      subst h0
      cases hl
      exact ⟨c1, g3, by rcases g4 with g4 | g4; exact .inl g4.symm; exact .inr g4.symm⟩
    · cases hl
  have := ACalls.move (σ := σ) (K := fun rv σ' => rv = .ptr (d + σ.next) 0 ∧ σ' = ⟨(d + σ.next, cells) :: σ.objs, σ.toks, d + 1 + σ.next⟩) h1 0 (by omega) rfl (fun i => i) (fun i _ _ => by omega) (fun i i' _ _ _ _ h => h) (fun i c hl' => by simp [alook] at hl') (fun i t hl' => by simp [alook] at hl') (AV.idsL_shut _ _ hA) ?_
  · rwa [AV.renL_shut _ _ hA] at this
  · rintro rv σ1 ⟨rfl, g2, g3⟩
    have hrho : rho 0 (fun i => i) σ.next d = d + σ.next := by unfold rho; rw [if_neg (by omega)]; omega
    refine ⟨d + 1, by unfold AV.ids; exact inK_iff.2 ⟨hd, by omega⟩, by omega, ⟨(d + σ.next, cells) :: σ.objs, σ.toks, d + 1 + σ.next⟩, ⟨fun j c hj => ?_, fun j t hj => .inr ⟨hj, fun i _ _ => by omega⟩, by show d + 1 - 0 + σ.next ≤ d + 1 + σ.next; omega⟩, by unfold AV.ren; rw [hrho], rfl⟩
    simp only [alook] at hj
    split at hj
    · rename_i h0
      cases hj
      exact .inl ⟨d, cells, hd, by omega, by rw [hrho]; exact h0, by rw [g2]; simp [alook], AV.idsL_shut _ _ hC, by rw [AV.renL_shut _ _ hC]⟩
    · exact .inr ⟨hj, fun i _ _ => by omega⟩

/-! ### In a walk -/
theorem S_call_mth {f : Operand} {g : FuncId} {first cap : List AV} {as_ : List Operand} {ats : Array TypeId} {args cells cells' : List AV} {id : Int} {R : AV} {objs' : List (Int × List AV)} (hf : aev sl f = .fn g first cap) (ha : first ++ as_.map (aev sl) ++ cap = .ptr id 0 :: args) (ho : alook objs id = some cells) (hto : alook toks id = none) (hlt : id < next) (h : AMth P g cells args R cells')
    (hc : ∀ (vs : Array Value) (w : World), (callFunc g vs).run P w = .ok (.enter g vs) w) (hob : asetF objs id cells' = some objs') (hs : aput sl dst R = sl') (hk : AOPS P ops r sl' ⟨objs', toks, next⟩ Q) : AOPS P ops (⟨dst, .call { callee := .value f, args := as_.toArray, argTypes := ats }, ty, pos, after, none⟩ :: r) sl ⟨objs, toks, next⟩ Q :=
  S_call hf ha (h id ⟨objs, toks, next⟩ ho hto hlt) hc hs (by rw [asetF_ok hob]; exact hk)
theorem S_call_new {f : Operand} {g : FuncId} {first cap : List AV} {as_ : List Operand} {ats : Array TypeId} {args cells : List AV} {d : Int} (hf : aev sl f = .fn g first cap) (ha : first ++ as_.map (aev sl) ++ cap = args) (h : ANew P g args cells d)
    (hc : ∀ (vs : Array Value) (w : World), (callFunc g vs).run P w = .ok (.enter g vs) w) (hs : aput sl dst (.ptr (d + next) 0) = sl') (hk : AOPS P ops r sl' ⟨(d + next, cells) :: objs, toks, d + 1 + next⟩ Q) : AOPS P ops (⟨dst, .call { callee := .value f, args := as_.toArray, argTypes := ats }, ty, pos, after, none⟩ :: r) sl ⟨objs, toks, next⟩ Q :=
  S_call hf ha (h _) hc hs hk
end Go.Proofs.Ytnjkklkjlloedaa
/-! The abstract machine: jumps ahead, slices with three bounds. -/
namespace Go.Proofs.Ytnjkklkjlloedaa
open Go.RowKit
set_option linter.unusedVariables false
set_option linter.unusedSimpArgs false
variable {base : Nat} {Fi : Int → Prop} {M : MM} {w w' : World}
variable {P : Program} {ops : Array Oper} {r : List Oper} {sl sl' : List AV} {σ σ' : ASt} {Q : Exit → List AV → ASt → Prop}
variable {dst : Option Tmp} {ty : TypeId} {pos : String} {after : Array Edge} {x y z : Operand}

def ANoGoto (Q : Exit → List AV → ASt → Prop) : Exit → List AV → ASt → Prop
  | .goto _, _, _ => False
  | e, sl, σ => Q e sl σ
def AJump (P : Program) (l : Nat) (rest : Code) (Q : Exit → List AV → ASt → Prop) : Exit → List AV → ASt → Prop
  | .goto l', sl, σ => l' = l ∧ AWP P rest sl σ (ANoGoto Q)
  | e, sl, σ => Q e sl σ
theorem AWP_scope {c rest : Code} (l : Nat) (hf : findLabel c l = some rest) (h : AWP P c sl σ (AJump P l rest Q)) : AWP P (.scope c) sl σ Q := by
  intro base Fi M0 w0 M a w hst hr
  refine wp_scope_fwd l hf (Code.wp_mono ?_ (h base Fi M0 w0 M a w hst hr))
  rintro e a' w' ⟨sl', σ', M', q, hr', hs'⟩
  cases e with
  | goto l' =>
    obtain ⟨rfl, hA⟩ := q
    refine ⟨rfl, Code.wp_mono ?_ (hA base Fi M0 w0 M' a' w' hs' hr')⟩
    rintro e a2 w2 ⟨sl2, σ2, M2, q2, hr2, hs2⟩
    cases e with
    | goto => exact q2.elim
    | _ => exact ⟨sl2, σ2, M2, q2, hr2, hs2⟩
  | _ => exact ⟨sl', σ', M', q, hr', hs'⟩
theorem AJump_normal {l : Nat} {rest : Code} (h : Q .normal sl σ) : AJump P l rest Q .normal sl σ := h
theorem AJump_ret {l : Nat} {rest : Code} (h : Q .ret sl σ) : AJump P l rest Q .ret sl σ := h
theorem AJump_exit {l i : Nat} {rest : Code} (h : Q (.exit i) sl σ) : AJump P l rest Q (.exit i) sl σ := h
theorem AJump_goto {l : Nat} {rest : Code} (h : AWP P rest sl σ (ANoGoto Q)) : AJump P l rest Q (.goto l) sl σ := ⟨rfl, h⟩
theorem ANoGoto_normal (h : Q .normal sl σ) : ANoGoto Q .normal sl σ := h
theorem ANoGoto_ret (h : Q .ret sl σ) : ANoGoto Q .ret sl σ := h
theorem ANoGoto_exit {i : Nat} (h : Q (.exit i) sl σ) : ANoGoto Q (.exit i) sl σ := h
/-- x[:m:m]. -/
theorem AOPS_slice_hm {t e : TypeId} {sz by_ : Nat} {own : AOwn} {cells : List AV} {n m : Nat} {k k' : IntKind} {i j : Int} (hx : aev sl x = .sl own cells n) [T : TySl P t e sz by_] (hy : aev sl y = .int k i) (hz : aev sl z = .int k' j) (hh : i = (m : Int)) (hj : j = (m : Int)) (hlm : m ≤ n) (hs : aput sl dst (.sl .full (cells.take (m * sz)) m) = sl') (h : AOPS P ops r sl' σ Q) : AOPS P ops (⟨dst, .slice t x none (some y) (some z), ty, pos, after, none⟩ :: r) sl σ Q :=
  AOPS_pure (av := .sl .full (cells.take (m * sz)) m) rfl (fun M a w hr => by
    have h1 := ev1 hr hx
    have h2 := ev1 hr hy
    have h3 := ev1 hr hz
    unfold Reps at h1 h2 h3
    obtain ⟨A, c, vs, h1, h4, h5, h6, h7, h8, h9, _⟩ := h1
    subst hh hj
    have h10 := fun w => T.sizeOf w
    have key := Reps.cut (own := own) (b := 0) (sz := sz) (Nat.zero_le m) hlm h4 h5 h6 h7 h8
    simp only [Nat.zero_mul, List.drop_zero, Nat.sub_zero] at key
    have h12 : m ≤ c := by omega
    refine ⟨.slice (if m = 0 then A else A.map (·.add 0)) m m, fun w' L => by simp [execOp, h1, h2, h3, Instr.sliceAt, Instr.slice, run_underlying T.und, Instr.sliceBounds, Instr.sliceBound, asIntOf, h12, h10], ?_⟩
    unfold Reps at key ⊢
    obtain ⟨A', c', vs', k1, k2, k3, k4, k5, k6, k7, _⟩ := key
    simp only [Value.slice.injEq] at k1
    obtain ⟨k1, _, k1'⟩ := k1
    subst k1'
    refine ⟨_, m, vs', rfl, Nat.le_refl m, by omega, fun hn => ?_, ?_, k6, k7, rfl⟩
    · by_cases h0 : m = 0
      · exact h0
      · rw [if_neg h0] at hn
        cases A with
        | none => have := h6 rfl; omega
        | some a => simp at hn
    · rcases k5 with k5 | ⟨b, o, k5, k5'⟩
      · exact .inl k5
      · by_cases h0 : m = 0
        · exact .inl h0
        · refine .inr ⟨b, o, ?_, k5'⟩
          rw [if_neg h0, ← k5, ← k1, if_neg (by omega)]) hs h
end Go.Proofs.Ytnjkklkjlloedaa
