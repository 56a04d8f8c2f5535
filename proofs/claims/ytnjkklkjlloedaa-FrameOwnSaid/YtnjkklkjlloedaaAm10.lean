/- The abstract machine: rules in the form that a script takes; what comes from contracts that were proved before, and what goes back to them. -/
import Derived.Test.YtnjkklkjlloedaaAm9
import Derived.Test.YtnjkklkjlloedaaKit
namespace Go.Proofs.Ytnjkklkjlloedaa
open Go.RowKit
set_option linter.unusedVariables false
set_option linter.unusedSimpArgs false

variable {base : Nat} {Fi : Int → Prop} {M M' M'' : MM} {w w' w'' : World}
variable {P : Program} {ops : Array Oper} {r : List Oper} {sl sl' : List AV} {σ σ' : ASt} {Q : Exit → List AV → ASt → Prop}
variable {d : Tmp} {dst : Option Tmp} {ty : TypeId} {pos : String} {after : Array Edge} {x y z : Operand} {gd : Option (Nat × Bool)} {op : Op}

/-- An operand's value, written out. -/
def aevo (sl : List AV) : Operand → Option AV
  | .tmp t => sl[t]?
  | .const (.int k n) => some (.int k n)
  | .const (.bool b) => some (.bool b)
  | .const (.string s) => if s.size ≤ 1000000 then some (.str s.data.toList) else none
  | .const (.pointer none) => some .nilp
  | .const (.slice none 0 0) => some .nils
  | .const .nilIface => some .nili
  | .const (.map none) => some .nilm
  | .func f => some (.fn f [] [])
  | _ => none
theorem aevo_eq {av : AV} (h : aevo sl x = some av) : aev sl x = av := by
  unfold aevo at h
  split at h
  case h_1 t => simp only [aev, List.getD_eq_getElem?_getD, h, Option.getD_some]
  case h_4 s =>
    split at h
    · rename_i hs; cases h; simp only [aev, cav, hs, if_true]
    · cases h
  case h_10 => cases h
  all_goals (cases h; rfl)
theorem S_move {av : AV} (hx : aevo sl x = some av) (hs : aput sl dst av = sl') (h : AOPS P ops r sl' σ Q) : AOPS P ops (⟨dst, .move x, ty, pos, after, none⟩ :: r) sl σ Q := AOPS_move (aevo_eq hx) hs h
theorem S_assign {av : AV} (hx : aevo sl x = some av) (hs : aput sl dst av = sl') (h : AOPS P ops r sl' σ Q) : AOPS P ops (⟨dst, .assign x, ty, pos, after, none⟩ :: r) sl σ Q := AOPS_assign (aevo_eq hx) hs h
theorem S_pick_t {c : Operand} {b : Bool} {av : AV} (hc : aev sl c = .bool b) (hb : b = true) (hx : aevo sl x = some av) (hs : aput sl dst av = sl') (h : AOPS P ops r sl' σ Q) : AOPS P ops (⟨dst, .pick c x y, ty, pos, after, none⟩ :: r) sl σ Q := AOPS_pick_t hc hb (aevo_eq hx) hs h
theorem S_pick_f {c : Operand} {b : Bool} {av : AV} (hc : aev sl c = .bool b) (hb : b = false) (hx : aevo sl y = some av) (hs : aput sl dst av = sl') (h : AOPS P ops r sl' σ Q) : AOPS P ops (⟨dst, .pick c x y, ty, pos, after, none⟩ :: r) sl σ Q := AOPS_pick_f hc hb (aevo_eq hx) hs h
theorem S_iface {t : TypeId} {av : AV} (hx : aevo sl x = some av) [T : TyConc P t] (hs : aput sl dst (.iface t av) = sl') (h : AOPS P ops r sl' σ Q) : AOPS P ops (⟨dst, .makeInterface t x, ty, pos, after, none⟩ :: r) sl σ Q := AOPS_iface (aevo_eq hx) hs h
theorem S_box {t : TypeId} {av : AV} {cells : List AV} {id : Int} (hx : aevo sl x = some av) (hf : av.flat = true) (hc : av.cells = cells) (hid : σ.next = id) (hs : aput sl dst (.ptr id 0) = sl') (h : AOPS P ops r sl' ⟨(id, cells) :: σ.objs, σ.toks, id + 1⟩ Q) : AOPS P ops (⟨dst, .box t x, ty, pos, after, none⟩ :: r) sl σ Q := by subst hc hid; exact AOPS_box (aevo_eq hx) hf hs h
theorem S_load_all {t : TypeId} {sz : Nat} {id : Int} {cells : List AV} (hx : aev sl x = .ptr id 0) [T : TyVar P t true sz] (ho : alook σ.objs id = some cells) (hp : cells.length = sz) (hs : aput sl dst (.agg cells) = sl') (h : AOPS P ops r sl' σ Q) : AOPS P ops (⟨dst, .load t x, ty, pos, after, none⟩ :: r) sl σ Q :=
  AOPS_load hx ho (by simp [aload, ← hp]) hs h
theorem S_load {t : TypeId} {sz off : Nat} {id : Int} {cells : List AV} {av : AV} (hx : aev sl x = .ptr id off) [T : TyVar P t false sz] (ho : alook σ.objs id = some cells) (hp : cells[off]? = some av) (hs : aput sl dst av = sl') (h : AOPS P ops r sl' σ Q) : AOPS P ops (⟨dst, .load t x, ty, pos, after, none⟩ :: r) sl σ Q :=
  AOPS_load hx ho (by simp [aload, hp]) hs h
theorem S_load_epr {t : TypeId} {sz off : Nat} {cells : List AV} {av : AV} (hx : aev sl x = .epr cells off) [T : TyVar P t false sz] (hp : cells[off]? = some av) (hs : aput sl dst av = sl') (h : AOPS P ops r sl' σ Q) : AOPS P ops (⟨dst, .load t x, ty, pos, after, none⟩ :: r) sl σ Q :=
  AOPS_load_epr hx (by simp [aload, hp]) hs h
theorem S_load_epr_agg {t : TypeId} {sz off : Nat} {cells cs : List AV} (hx : aev sl x = .epr cells off) [T : TyVar P t true sz] (hle : off + sz ≤ cells.length) (hp : (cells.drop off).take sz = cs) (hs : aput sl dst (.agg cs) = sl') (h : AOPS P ops r sl' σ Q) : AOPS P ops (⟨dst, .load t x, ty, pos, after, none⟩ :: r) sl σ Q :=
  AOPS_load_epr hx (by simp only [aload, if_true]; rw [if_pos hle, hp]) hs h
/-- A store of a value of one cell. -/
theorem S_store {t : TypeId} {sz off : Nat} {id : Int} {cells cells' : List AV} {av : AV} {objs' : List (Int × List AV)} (hx : aev sl x = .ptr id off) (hy : aevo sl y = some av) [T : TyVar P t false 1] (ho : alook σ.objs id = some cells) (hf : av.one = true) (hle : off < cells.length) (hc : cells.set off av = cells') (hob : aset σ.objs id cells' = objs') (hs : aput sl dst .und = sl') (h : AOPS P ops r sl' ⟨objs', σ.toks, σ.next⟩ Q) : AOPS P ops (⟨dst, .store t x y, ty, pos, after, none⟩ :: r) sl σ Q := by
  have h1 : av.cells = [av] := by cases av <;> first | rfl | (simp [AV.one] at hf)
  have h2 : av.flat = true := by cases av <;> first | exact hf | (simp [AV.one] at hf)
  refine AOPS_store (vs := [av]) hx (aevo_eq hy) ho h1 (by simp [hf]) h2 rfl (by simp; omega) ?_ hs h
  rw [← hob, ← hc]
  congr 1
  simp only [acut, List.length_cons, List.length_nil, Nat.zero_add]
  rw [List.set_eq_take_append_cons_drop, if_pos hle]
  simp
/-- A store of all that there is. -/
theorem S_store_all {t : TypeId} {sz : Nat} {id : Int} {cells vs : List AV} {objs' : List (Int × List AV)} (hx : aev sl x = .ptr id 0) (hy : aev sl y = .agg vs) [T : TyVar P t true sz] (ho : alook σ.objs id = some cells) (hf : vs.all AV.one = true) (hl : vs.length = sz) (hle : cells.length = sz) (hob : aset σ.objs id vs = objs') (hs : aput sl dst .und = sl') (h : AOPS P ops r sl' ⟨objs', σ.toks, σ.next⟩ Q) : AOPS P ops (⟨dst, .store t x y, ty, pos, after, none⟩ :: r) sl σ Q := by
  refine AOPS_store (vs := vs) hx hy ho rfl hf hf hl (by omega) ?_ hs h
  rw [← hob]
  congr 1
  simp only [acut, List.take_zero, List.nil_append, Nat.zero_add]
  rw [List.drop_eq_nil_of_le (by omega), List.append_nil]
theorem S_extract {cs : List AV} {i : Nat} {av : AV} (hx : aev sl x = .tup cs) (hi : cs[i]? = some av) (hs : aput sl dst av = sl') (h : AOPS P ops r sl' σ Q) : AOPS P ops (⟨dst, .extract x i, ty, pos, after, none⟩ :: r) sl σ Q := AOPS_extract hx hi hs h
theorem S_field {t : TypeId} {f off : Nat} {sz : Nat} {cells : List AV} {av : AV} (hx : aev sl x = .agg cells) [T : TyFldS P t f off false sz] (hp : cells[off]? = some av) (hs : aput sl dst av = sl') (h : AOPS P ops r sl' σ Q) : AOPS P ops (⟨dst, .field t x f, ty, pos, after, none⟩ :: r) sl σ Q := AOPS_field hx (by simp [apart, hp]) hs h

/-! ### Sums without overflow -/
theorem S_add {t t' : TypeId} {m n : Int} (hx : aev sl x = .int .i64 m) (hy : aev sl y = .int .i64 n) (hb : -9223372036854775808 ≤ m + n ∧ m + n ≤ 9223372036854775807) (hs : aput sl dst (.int .i64 (m + n)) = sl') (h : AOPS P ops r sl' σ Q) : AOPS P ops (⟨dst, .binOp .add t x y t', ty, pos, after, none⟩ :: r) sl σ Q :=
  AOPS_bin hx hy (show abin .add .i64 m n = some (.int .i64 (m + n)) by simp only [abin]; rw [show IntKind.i64.wrap (m + n) = m + n by rw [IntKind.wrap_i64]; omega]) hs h
theorem S_sub {t t' : TypeId} {m n : Int} (hx : aev sl x = .int .i64 m) (hy : aev sl y = .int .i64 n) (hb : -9223372036854775808 ≤ m - n ∧ m - n ≤ 9223372036854775807) (hs : aput sl dst (.int .i64 (m - n)) = sl') (h : AOPS P ops r sl' σ Q) : AOPS P ops (⟨dst, .binOp .sub t x y t', ty, pos, after, none⟩ :: r) sl σ Q :=
  AOPS_bin hx hy (show abin .sub .i64 m n = some (.int .i64 (m - n)) by simp only [abin]; rw [show IntKind.i64.wrap (m - n) = m - n by rw [IntKind.wrap_i64]; omega]) hs h
theorem S_bin {op : BinOp} {t t' : TypeId} {k : IntKind} {m n : Int} {av : AV} (hx : aev sl x = .int k m) (hy : aev sl y = .int k n) (ho : abin op k m n = some av) (hs : aput sl dst av = sl') (h : AOPS P ops r sl' σ Q) : AOPS P ops (⟨dst, .binOp op t x y t', ty, pos, after, none⟩ :: r) sl σ Q := AOPS_bin hx hy ho hs h

/-! ### Freezing -/
def MM.frz (M : MM) (id : Int) : MM := ⟨M.ob, M.tk, fun i => i = id ∨ M.fz i⟩
def adel {α : Type} : List (Int × α) → Int → List (Int × α)
  | [], _ => []
  | (k, v) :: r, id => if k = id then adel r id else (k, v) :: adel r id
theorem alook_adel {α : Type} : ∀ (l : List (Int × α)) (id i : Int), alook (adel l id) i = if i = id then none else alook l i
  | [], id, i => by simp [adel, alook]
  | (k, v) :: r, id, i => by
    unfold adel
    by_cases hk : k = id
    · rw [if_pos hk, alook_adel r id i]
      by_cases hi : i = id
      · simp [hi]
      · simp only [hi, if_false, alook]
        rw [if_neg (by omega)]
    · rw [if_neg hk]
      simp only [alook]
      rw [alook_adel r id i]
      by_cases hi : i = id
      · subst hi; simp [hk]
      · simp [hi]
theorem frz_stp (S : St base Fi M w σ) {id : Int} {cells : List AV} (ho : alook σ.objs id = some cells) : Stp base Fi M w (M.frz id) w := by
  have hF := (S.obs id cells ho).1
  refine ⟨rfl, rfl, rfl, Nat.le_refl _, fun _ _ => rfl, fun _ _ h => h, fun i T h => ⟨T, h, rfl, .inl rfl⟩, fun b j v hs hc => ⟨hc, fun i h => .inr (hs.1 i h), hs.2⟩, fun _ _ _ _ => rfl, fun i hf hz => ?_, fun _ _ _ _ _ _ _ _ => rfl⟩
  rcases hz with rfl | hz
  · exact absurd hf hF.1
  · exact hz
theorem AOPS_freeze {l : List Oper} {t n sz : Nat} {id : Int} {cells : List AV} {objs' : List (Int × List AV)} (ht : sl[t]? = some (.row id 0 n)) (ho : alook σ.objs id = some cells) (h0 : n = 0 → cells = []) (hob : adel σ.objs id = objs') (hs : sl.set t (.sl .full cells n) = sl') (h : AOPS P ops l sl' ⟨objs', σ.toks, σ.next⟩ Q) : AOPS P ops l sl σ Q := by
  intro base Fi M0 w0 M a w hst hr
  have S := hr.2.2
  have T := frz_stp S ho
  obtain ⟨hF, b, vs, e, h1, h2, h3, h4⟩ := S.obs id cells ho
  obtain ⟨v, hv, hrv⟩ := hr.2.1.get t _ ht
  have hrv' := hrv
  unfold Reps at hrv'
  obtain ⟨b', h5, h6, h7⟩ := hrv'
  rw [h1] at h5; cases h5
  refine h base Fi M0 w0 (M.frz id) a w (hst.trans T) ⟨hr.1, ?_, ?_⟩
  · subst hs
    have h8 : Reps (M.frz id) w (.sl .full cells n) v := by
      unfold Reps
      refine ⟨_, n, vs.toList, h6, Nat.le_refl n, h7, (fun h => by cases h), .inr ⟨b, 0, rfl, fun j u hu => ?_⟩, RepsL.stp T _ _ h4, h0, by unfold OwnOk; rfl⟩
      rw [Nat.zero_add]
      refine ⟨by rw [cell_of_row w _ _ _ _ _ h3]; simpa using hu, fun i hi => .inl (S.inj i id b hi h1), fun i Tk e' ce h9 h10 => absurd h10 (S.dis id i b Tk e' ce h1 h9)⟩
    have h9 := (RepsL.stp T _ _ hr.2.1).set t h8
    have h10 : a.tmps.toList.set t v = a.tmps.toList := by
      apply List.ext_getElem?
      intro i
      rw [List.getElem?_set]
      split
      · rename_i hi; subst hi; rw [hv]; split
        · rfl
        · rename_i hlt; rw [List.getElem?_eq_none (by omega)] at hv; cases hv
      · rfl
    rw [h10] at h9
    exact h9
  · subst hob
    refine ⟨S.base_le, fun i c hl => ?_, S.tks, S.inj, S.dis, S.tinj, S.obsz, S.tksz, fun i hi => ?_⟩
    · simp only [alook_adel] at hl
      split at hl
      · cases hl
      · rename_i hne
        obtain ⟨g1, b2, us, e2, g2, g3, g4, g5⟩ := S.obs i c hl
        exact ⟨⟨g1.1, fun hz => hz.elim hne g1.2⟩, b2, us, e2, g2, g3, g4, RepsL.stp T _ _ g5⟩
    · obtain ⟨g1, g2, g3, g4⟩ := S.fresh i hi
      refine ⟨g1, g2, g3, fun hz => hz.elim (fun e => ?_) g4⟩
      subst e
      rw [g1] at h1; cases h1

/-! ### To and from the contracts that speak of worlds -/
def MM.none : MM := ⟨fun _ => .none, fun _ => .none, fun _ => False⟩
theorem St.none (w : World) (n : Int) : St w.heap.size (fun _ => False) MM.none w ⟨[], [], n⟩ :=
  ⟨Nat.le_refl _, (fun _ _ h => by simp [alook] at h), (fun _ _ h => by simp [alook] at h), (fun _ _ _ h => by cases h), (fun _ _ _ _ _ _ h => by cases h), (fun _ _ _ _ _ _ _ _ _ h => by cases h), (fun _ _ h => by cases h), (fun _ _ _ _ _ h => by cases h), fun _ _ => ⟨rfl, rfl, fun h => h, fun h => h⟩⟩
theorem stab_none (b j : Nat) : stab MM.none b j := ⟨(fun _ h => by cases h), (fun _ _ _ _ h => by cases h)⟩
theorem Stp.below_ {base : Nat} (h : Stp base Fi M w M' w') : Below base w w' := ⟨h.os, h.tape, h.output, h.size, h.below⟩
/-- A law's walk. -/
theorem ACalls.tells {f : FuncId} {args : List AV} {vs : List Value} (h : ACalls P f args ⟨[], [], 0⟩ (fun rv _ => rv = .bool true)) (hr : RepsL MM.none w args vs) : Calls P f vs.toArray w (Tells w true) := by
  refine (h w.heap.size (fun _ => False) MM.none w vs (St.none w 0) hr).mono ?_
  rintro e w' ⟨rv, σ', M', v, rfl, rfl, h3, h4, h5⟩
  unfold Reps at h3
  subst h3
  exact ⟨rfl, h5.below_⟩
theorem Rd.reps {A : Option Addr} {n c : Nat} {l : List UInt8} (h : Rd w 1 A n c (bvs l)) : Reps MM.none w (.sl .none (l.map bvA) n) (.slice A n c) := by
  unfold Reps
  refine ⟨A, c, bvs l, rfl, h.cap, h.max, h.nil, h.cells.imp (fun h => h) fun ⟨b, o, hA, hx⟩ => ⟨b, o, hA, fun j u hu => ⟨hx j u hu, stab_none _ _⟩⟩, bvA_reps l, fun h0 => ?_, trivial⟩
  have := h.len
  rw [bvs_length] at this
  simp [List.eq_nil_of_length_eq_zero (show l.length = 0 by omega)]
/-- What a call of the elder kind gives back: bytes. -/
theorem Seg.retN (S : St base Fi M w σ) (hB : Below w.heap.size w w') {A : Option Addr} {n c : Nat} {l : List UInt8} (h : Seg w' w.heap.size 1 A n c (bvs l)) : Reps M w' (.sl .none (l.map bvA) n) (.slice A n c) := by
  have hl : l.length = n := by have := h.len; rw [bvs_length] at this; omega
  have hle := h.cap
  unfold Reps
  rcases h.form with ⟨rfl, rfl⟩ | ⟨g, o, rfl, hg, hc, hx⟩
  · obtain rfl : n = 0 := by omega
    obtain rfl := List.eq_nil_of_length_eq_zero hl
    exact ⟨_, 0, [], rfl, Nat.le_refl _, by simp, fun _ => rfl, .inl rfl, RepsL.nil, fun _ => rfl, trivial⟩
  · exact ⟨_, c, bvs l, rfl, hle, h.max, (fun h => by cases h), .inr ⟨g, o, rfl, fun j u hu => ⟨hx j u hu, stab_new S hg.1 _⟩⟩, bvA_reps l, fun h0 => by simp [List.eq_nil_of_length_eq_zero (show l.length = 0 by omega)], trivial⟩
end Go.Proofs.Ytnjkklkjlloedaa
