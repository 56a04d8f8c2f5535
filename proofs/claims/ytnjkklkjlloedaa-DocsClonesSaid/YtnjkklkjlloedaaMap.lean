/- The abstract machine: maps. -/
import Derived.Test.YtnjkklkjlloedaaBuf
import Derived.Maps.Keyed
import Derived.DeepKeys4
namespace Go.Proofs.Ytnjkklkjlloedaa
open Go.RowKit
set_option linter.unusedVariables false
set_option linter.unusedSimpArgs false
variable {base : Nat} {Fi : Int → Prop} {M M' : MM} {w w' : World}
variable {P : Program} {ops : Array Oper} {r : List Oper} {sl sl' : List AV} {σ σ' : ASt} {Q : Exit → List AV → ASt → Prop}
variable {dst : Option Tmp} {ty : TypeId} {pos : String} {after : Array Edge} {x y z : Operand} {objs : List (Int × List AV)} {toks toks' : List (Int × Tq)} {next : Int}

/-! ### A pointer == nil -/
theorem binOp_eql_ptr (t : TypeId) (A B : Option Addr) : binOp .eql t (.pointer A) (.pointer B) = (do pure (.bool (← Op.equal t (.pointer A) (.pointer B)))) := rfl
theorem binOp_neq_ptr (t : TypeId) (A B : Option Addr) : binOp .neq t (.pointer A) (.pointer B) = (do pure (.bool (!(← Op.equal t (.pointer A) (.pointer B))))) := rfl
theorem eqGuard_ptr (op : BinOp) (t : TypeId) (A : Option Addr) (v : Value) : eqGuard op t x y (.pointer A) v = pure () := by cases op <;> rfl
theorem run_eqptr {t : TypeId} [T : TyPtr P t] (d : Nat) (a : Addr) (w : World) : (Op.equalIn (d + 1) t (.pointer (some a)) (.pointer none)).run P w = .ok false w := by
  obtain ⟨e, he⟩ := T.und
  simp [Op.equalIn, run_underlying he]
theorem run_eqptr2 {t : TypeId} [T : TyPtr P t] (d : Nat) (w : World) : (Op.equalIn (d + 1) t (.pointer none) (.pointer none)).run P w = .ok true w := by
  obtain ⟨e, he⟩ := T.und
  simp [Op.equalIn, run_underlying he]
theorem S_eqnil_ptr {t t' : TypeId} {id : Int} {off : Nat} (hx : aev sl x = .ptr id off) (hy : aev sl y = .nilp) [T : TyPtr P t] (hs : aput sl dst (.bool false) = sl') (h : AOPS P ops r sl' σ Q) : AOPS P ops (⟨dst, .binOp .eql t x y t', ty, pos, after, none⟩ :: r) sl σ Q :=
  AOPS_pure (av := .bool false) rfl (fun M a w hr => by
    have h1 := ev1 hr hx
    have h2 := ev1 hr hy
    unfold Reps at h1 h2
    obtain ⟨b, _, h1⟩ := h1
    have h8 : ∀ w, (Op.equal t (.pointer (some ⟨b, off, none⟩)) (.pointer none)).run P w = .ok false w := fun w => run_eqptr (t := t) 9999 _ w
    exact ⟨.bool false, fun w' L => by simp [execOp, h1, h2, eqGuard_ptr, binOp_eql_ptr, h8], Reps_bool⟩) hs h
theorem S_nenil_ptr {t t' : TypeId} {id : Int} {off : Nat} (hx : aev sl x = .ptr id off) (hy : aev sl y = .nilp) [T : TyPtr P t] (hs : aput sl dst (.bool true) = sl') (h : AOPS P ops r sl' σ Q) : AOPS P ops (⟨dst, .binOp .neq t x y t', ty, pos, after, none⟩ :: r) sl σ Q :=
  AOPS_pure (av := .bool true) rfl (fun M a w hr => by
    have h1 := ev1 hr hx
    have h2 := ev1 hr hy
    unfold Reps at h1 h2
    obtain ⟨b, _, h1⟩ := h1
    have h8 : ∀ w, (Op.equal t (.pointer (some ⟨b, off, none⟩)) (.pointer none)).run P w = .ok false w := fun w => run_eqptr (t := t) 9999 _ w
    exact ⟨.bool true, fun w' L => by simp [execOp, h1, h2, eqGuard_ptr, binOp_neq_ptr, h8], Reps_bool⟩) hs h
theorem S_eqnil_nilp {t t' : TypeId} (hx : aev sl x = .nilp) (hy : aev sl y = .nilp) [T : TyPtr P t] (hs : aput sl dst (.bool true) = sl') (h : AOPS P ops r sl' σ Q) : AOPS P ops (⟨dst, .binOp .eql t x y t', ty, pos, after, none⟩ :: r) sl σ Q :=
  AOPS_pure (av := .bool true) rfl (fun M a w hr => by
    have h1 := ev1 hr hx
    have h2 := ev1 hr hy
    unfold Reps at h1 h2
    have h8 : ∀ w, (Op.equal t (.pointer none) (.pointer none)).run P w = .ok true w := fun w => run_eqptr2 (t := t) 9999 w
    exact ⟨.bool true, fun w' L => by simp [execOp, h1, h2, eqGuard_ptr, binOp_eql_ptr, h8], Reps_bool⟩) hs h
/-! ### A string's beginning, and what is behind it -/
theorem ba_extract (l : List UInt8) (a b : Nat) : (ByteArray.mk l.toArray).extract a b = ⟨((l.drop a).take (b - a)).toArray⟩ := by
  apply ByteArray.ext
  simp
theorem S_slice_str_h {t : TypeId} {l : List UInt8} {m : Nat} {k : IntKind} {j : Int} (hx : aev sl x = .str l) [T : TyStr P t] (hz : aev sl z = .int k j) (hh : j = (m : Int)) (hlm : m ≤ l.length) (hs : aput sl dst (.str (l.take m)) = sl') (h : AOPS P ops r sl' σ Q) : AOPS P ops (⟨dst, .slice t x none (some z) none, ty, pos, after, none⟩ :: r) sl σ Q :=
  AOPS_pure (av := .str (l.take m)) rfl (fun M a w hr => by
    have h1 := ev1 hr hx
    have h2 := ev1 hr hz
    unfold Reps at h1 h2
    obtain ⟨h1, h3⟩ := h1
    subst hh
    have h4 : (0 : Int) ≤ (m : Int) ∧ (m : Int) ≤ (l.length : Int) := by omega
    refine ⟨.string ⟨(l.take m).toArray⟩, fun w' L => ?_, by unfold Reps; exact ⟨rfl, by rw [List.length_take]; omega⟩⟩
    have h6 := ba_extract l 0 m
    simp only [List.drop_zero, Nat.sub_zero] at h6
    have h7 := ba_size l
    rw [← h6]
    generalize (ByteArray.mk l.toArray) = ba at *
    simp [execOp, h1, h2, Instr.sliceAt, Instr.slice, run_underlying T.und, Instr.sliceBounds, Instr.sliceBound, asIntOf, h4, h7]
    try (intro h8; omega)) hs h
theorem S_slice_str_l {t : TypeId} {l : List UInt8} {m : Nat} {k : IntKind} {j : Int} (hx : aev sl x = .str l) [T : TyStr P t] (hy : aev sl y = .int k j) (hh : j = (m : Int)) (hlm : m ≤ l.length) (hs : aput sl dst (.str (l.drop m)) = sl') (h : AOPS P ops r sl' σ Q) : AOPS P ops (⟨dst, .slice t x (some y) none none, ty, pos, after, none⟩ :: r) sl σ Q :=
  AOPS_pure (av := .str (l.drop m)) rfl (fun M a w hr => by
    have h1 := ev1 hr hx
    have h2 := ev1 hr hy
    unfold Reps at h1 h2
    obtain ⟨h1, h3⟩ := h1
    subst hh
    have h4 : (0 : Int) ≤ (m : Int) ∧ (m : Int) ≤ (l.length : Int) := by omega
    refine ⟨.string ⟨(l.drop m).toArray⟩, fun w' L => ?_, by unfold Reps; exact ⟨rfl, by rw [List.length_drop]; omega⟩⟩
    have h5 : (l.drop m).take (l.length - m) = l.drop m := List.take_of_length_le (by rw [List.length_drop]; exact Nat.le_refl _)
    have h6 := ba_extract l m l.length
    rw [h5] at h6
    have h7 := ba_size l
    rw [← h6]
    generalize (ByteArray.mk l.toArray) = ba at *
    simp [execOp, h1, h2, Instr.sliceAt, Instr.slice, run_underlying T.und, Instr.sliceBounds, Instr.sliceBound, asIntOf, h4, h7]
    try (intro h8; omega)) hs h
/-! ### A literal of nothing -/
theorem S_lit0 {t e : TypeId} {sz by_ : Nat} {agg : Bool} {zs : List Value} [T : TySl P t e sz by_] [Z : TyZero P e agg zs] (hzl : zs.length = sz) (hs : aput sl dst (.sl .full [] 0) = sl') (h : AOPS P ops r sl' σ Q) : AOPS P ops (⟨dst, .buildSlice t 0 #[], ty, pos, after, none⟩ :: r) sl σ Q :=
  AOPS_buildSlice (ps := []) rfl (cells := []) (by simp [aparts, afill, azeros]) hzl ⟨by simp, fun _ => rfl⟩ hs h
/-! ### Keys -/
/-- A map's shape with nothing known of its stamps. -/
def KSh.plain : KSh → Bool
  | .one _ => true
  | .row _ => true
  | _ => false
class TyKey (P : Program) (k : TypeId) (sh : outParam KSh) : Prop where
  law : Go.Maps.Keyed P k
  plain : sh.plain = true
  fit : ∀ (M : MM) (w : World) (a : AV) (v : Value), sh.fit a = true → Reps M w a v → ∃ l, keyOf P k v = some l
theorem KTy.inj {t : KTy} {a b : AV} {v : Value} (ha : t.fit a = true) (hb : t.fit b = true) (h1 : Reps M w a v) (h2 : Reps M w b v) : a = b := by
  cases t <;> cases a <;> simp [KTy.fit] at ha <;> cases b <;> simp [KTy.fit] at hb <;> unfold Reps at h1 h2
  · subst h1; cases h2; rfl
  · obtain ⟨rfl, _⟩ := h1
    have := h2.1
    simp only [Value.string.injEq, ByteArray.mk.injEq] at this
    rw [List.toArray_inj this]
theorem KTy.one {t : KTy} {a : AV} {v v' : Value} (ha : t.fit a = true) (h1 : Reps M w a v) (h2 : Reps M w a v') : v = v' := by
  cases t <;> cases a <;> simp [KTy.fit] at ha <;> unfold Reps at h1 h2
  · rw [h1, h2]
  · rw [h1.1, h2.1]
theorem KTy.injs : ∀ {ts : List KTy} {a b : List AV} {v : List Value}, KTy.fits ts a = true → KTy.fits ts b = true → RepsL M w a v → RepsL M w b v → a = b
  | [], [], [], v, _, _, _, _ => rfl
  | t :: ts, a :: ar, b :: br, v, ha, hb, h1, h2 => by
    simp only [KTy.fits, Bool.and_eq_true] at ha hb
    unfold RepsL at h1 h2
    obtain ⟨u, ur, rfl, g1, g2⟩ := h1
    obtain ⟨u', ur', h3, g3, g4⟩ := h2
    cases h3
    rw [KTy.inj ha.1 hb.1 g1 g3, KTy.injs ha.2 hb.2 g2 g4]
  | [], _ :: _, _, _, ha, _, _, _ => by simp [KTy.fits] at ha
  | [], [], _ :: _, _, _, hb, _, _ => by simp [KTy.fits] at hb
  | _ :: _, [], _, _, ha, _, _, _ => by simp [KTy.fits] at ha
  | _ :: _, _ :: _, [], _, _, hb, _, _ => by simp [KTy.fits] at hb
theorem KTy.ones : ∀ {ts : List KTy} {a : List AV} {v v' : List Value}, KTy.fits ts a = true → RepsL M w a v → RepsL M w a v' → v = v'
  | [], [], v, v', _, h1, h2 => by unfold RepsL at h1 h2; rw [h1, h2]
  | t :: ts, a :: ar, v, v', ha, h1, h2 => by
    simp only [KTy.fits, Bool.and_eq_true] at ha
    unfold RepsL at h1 h2
    obtain ⟨u, ur, rfl, g1, g2⟩ := h1
    obtain ⟨u', ur', rfl, g3, g4⟩ := h2
    rw [KTy.one ha.1 g1 g3, KTy.ones ha.2 g2 g4]
  | [], _ :: _, _, _, ha, _, _ => by simp [KTy.fits] at ha
  | _ :: _, [], _, _, ha, _, _ => by simp [KTy.fits] at ha
theorem KSh.inj {t : KSh} {a b : AV} {v : Value} (ha : t.fit a = true) (hb : t.fit b = true) (h1 : Reps M w a v) (h2 : Reps M w b v) : a = b := by
  induction t with
  | st sh _ _ _ ih => exact ih ha hb
  | itr => simp [KSh.fit] at ha
  | one t => exact KTy.inj ha hb h1 h2
  | row ts =>
    cases a <;> simp only [KSh.fit, Bool.false_eq_true] at ha
    cases b <;> simp only [KSh.fit, Bool.false_eq_true] at hb
    unfold Reps at h1 h2
    obtain ⟨vs, rfl, g1⟩ := h1
    obtain ⟨vs', h3, g2⟩ := h2
    cases h3
    rw [KTy.injs ha hb g1 g2]
theorem KSh.only {t : KSh} {a : AV} {v v' : Value} (ha : t.fit a = true) (h1 : Reps M w a v) (h2 : Reps M w a v') : v = v' := by
  induction t with
  | st sh _ _ _ ih => exact ih ha
  | itr => simp [KSh.fit] at ha
  | one t => exact KTy.one ha h1 h2
  | row ts =>
    cases a <;> simp only [KSh.fit, Bool.false_eq_true] at ha
    unfold Reps at h1 h2
    obtain ⟨vs, rfl, g1⟩ := h1
    obtain ⟨vs', rfl, g2⟩ := h2
    have := KTy.ones ha g1 g2
    rw [Array.toList_inj.1 this]
/-- The kinds of keys: ints, strings, rows of such. -/
def KTy.ok (P : Program) (t : KTy) (ft : TypeId) : Bool :=
  match t with
  | .int k => match P.underlying ft with
    | some (.int k') => decide (k' = k)
    | _ => false
  | .str => match P.underlying ft with
    | some .string => true
    | _ => false
def fldsOk (P : Program) : Nat → List Field → List KTy → Bool
  | _, [], [] => true
  | j, f :: fs, t :: ts => decide (f.offset = j) && decide (P.cellsOf f.type = 1) && t.ok P f.type && (f.name != "_") && fldsOk P (j + 1) fs ts
  | _, _, _ => false
theorem KTy.lits {t : KTy} {ft : TypeId} {a : AV} {v : Value} (ho : t.ok P ft = true) (hf : t.fit a = true) (h : Reps M w a v) (d : Nat) : ∃ l, P.keyLits (d + 1) ft [v] = some l := by
  cases t with
  | int k =>
    unfold KTy.ok at ho
    simp only at ho
    split at ho
    · rename_i k' hu
      have hk := of_decide_eq_true ho
      subst hk
      cases a <;> simp only [KTy.fit, Bool.false_eq_true, Bool.and_eq_true, decide_eq_true_eq] at hf
      obtain ⟨rfl, hw⟩ := hf
      unfold Reps at h
      subst h
      rename_i kk nn
      refine ⟨[.int kk nn], ?_⟩
      unfold Program.keyLits
      simp only [hu, hw, and_self, if_true]
    · cases ho
  | str =>
    unfold KTy.ok at ho
    simp only at ho
    split at ho
    · rename_i hu
      cases a <;> simp only [KTy.fit, Bool.false_eq_true] at hf
      unfold Reps at h
      obtain ⟨rfl, hl⟩ := h
      exact ⟨_, by unfold Program.keyLits; simp only [hu]; rw [if_pos (by simpa [ByteArray.size] using hl)]⟩
    · cases ho
theorem flds_lits : ∀ {fs : List Field} {ts : List KTy} {a : List AV} {v pre : List Value} {j : Nat}, fldsOk P j fs ts = true → KTy.fits ts a = true → RepsL M w a v → pre.length = j → ∀ f ∈ fs, ∀ d, ∃ l, P.keyLits (d + 1) f.type (((pre ++ v).drop f.offset).take (P.cellsOf f.type)) = some l
  | [], _, _, _, _, _, _, _, _, _, f, hf, _ => by cases hf
  | f0 :: fs, [], _, _, _, _, h, _, _, _, _, _, _ => by simp [fldsOk] at h
  | f0 :: fs, t :: ts, [], _, _, _, _, h, _, _, _, _, _ => by simp [KTy.fits] at h
  | f0 :: fs, t :: ts, a :: ar, v, pre, j, ho, hf, hr, hp, f, hm, d => by
    simp only [fldsOk, Bool.and_eq_true, decide_eq_true_eq] at ho
    obtain ⟨⟨⟨⟨h1, h2⟩, h3⟩, _⟩, h5⟩ := ho
    simp only [KTy.fits, Bool.and_eq_true] at hf
    unfold RepsL at hr
    obtain ⟨u, ur, rfl, g1, g2⟩ := hr
    cases hm with
    | head =>
      rw [h1, h2, List.drop_append_of_le_length (by omega), List.drop_eq_nil_of_le (by omega)]
      exact KTy.lits h3 hf.1 g1 d
    | tail _ hm =>
      have := flds_lits (pre := pre ++ [u]) h5 hf.2 g2 (by simp [hp]) f hm d
      simpa using this
theorem fldsOk_names : ∀ {fs : List Field} {ts : List KTy} {j : Nat}, fldsOk P j fs ts = true → ∀ f ∈ fs, (f.name != "_") = true
  | [], _, _, _, f, h => by cases h
  | _ :: _, [], _, h, _, _ => by simp [fldsOk] at h
  | f0 :: fs, t :: ts, j, h, f, hm => by
    simp only [fldsOk, Bool.and_eq_true] at h
    cases hm with
    | head => exact h.1.2
    | tail _ hm => exact fldsOk_names h.2 f hm
theorem fits_length : ∀ {ts : List KTy} {a : List AV}, KTy.fits ts a = true → a.length = ts.length
  | [], [], _ => rfl
  | t :: ts, a :: ar, h => by simp only [KTy.fits, Bool.and_eq_true] at h; simp [fits_length h.2]
  | [], _ :: _, h => by simp [KTy.fits] at h
  | _ :: _, [], h => by simp [KTy.fits] at h
theorem TyKey.row {k : TypeId} {ts : List KTy} {fs : Array Field} (hl : laidOutB P = true) (hrow : decide (k < P.types.size) = true) (hk : P.keyTypeAt 3 k = true) (hk2 : P.keyType k = true) (hu : P.underlying k = some (.struct fs)) (hc : P.cellsOf k = ts.length) (hf : fldsOk P 0 fs.toList ts = true) : TyKey P k (.row ts) := by
  refine ⟨Go.Maps.Keyed.of_law (deep_law_laid hl (m := 3) (by omega) (of_decide_eq_true hrow) hk (by rw [hu])), rfl, fun M w a v ha hr => ?_⟩
  cases a <;> simp only [KSh.fit, Bool.false_eq_true] at ha
  unfold Reps at hr
  obtain ⟨vs, rfl, h2⟩ := hr
  have hlen : vs.size = ts.length := by have := h2.length; rw [fits_length ha] at this; simpa using this
  have hform : (Value.agg vs).formed P k = true := by simp [Value.formed, hu, hc, hlen]
  unfold keyOf
  rw [hu]
  simp only [hk2, hform, Bool.and_self, if_true]
  unfold Program.keyLits
  simp only [hu, Value.cells]
  rw [if_pos ⟨by simp [hc, hlen], Array.all_eq_true_iff_forall_mem.2 fun f hm => fldsOk_names hf f (Array.mem_toList_iff.2 hm)⟩]
  have hall : ∀ f ∈ fs.toList, ∃ l, P.keyLits P.types.size f.type ((vs.toList.drop f.offset).take (P.cellsOf f.type)) = some l := by
    intro f hm
    have hrow' : k < P.types.size := of_decide_eq_true hrow
    have hpos : P.types.size = (P.types.size - 1) + 1 := (Nat.sub_add_cancel (Nat.succ_le_of_lt (Nat.lt_of_le_of_lt (Nat.zero_le _) hrow'))).symm
    rw [hpos]
    have := flds_lits (pre := []) hf ha h2 rfl f hm (P.types.size - 1)
    simpa using this
  obtain ⟨rr, hrr⟩ := Go.MapFrom.mapM_some hall
  rw [hrr]
  exact ⟨_, rfl⟩
theorem TyKey.str {k : TypeId} (hu : P.underlying k = some .string) : TyKey P k (.one .str) := by
  refine ⟨Go.Maps.Keyed.of_law (Go.WideMaps.string_law hu), rfl, fun M w a v ha hr => ?_⟩
  cases a <;> simp only [KSh.fit, KTy.fit, Bool.false_eq_true] at ha
  unfold Reps at hr
  obtain ⟨rfl, h2⟩ := hr
  exact ⟨_, Go.WideMaps.keyOf_string_mk hu (by simpa [ByteArray.size] using h2)⟩

/-! ### What a map answers -/
theorem MapRel.keys {k : TypeId} {sh : KSh} [K : TyKey P k sh] {kvs : List (AV × AV)} {es : List MapEntry} (h : MapRel M w sh kvs es) : ∀ e ∈ es, ∃ l, keyOf P k e.key = some l := by
  intro e he
  obtain ⟨i, hi⟩ := List.getElem?_of_mem he
  obtain ⟨hlt, _⟩ := List.getElem?_eq_some_iff.1 hi
  obtain ⟨p, hp⟩ : ∃ p, kvs[i]? = some p := ⟨_, List.getElem?_eq_getElem (by rw [← h.1]; exact hlt)⟩
  obtain ⟨h1, _, h3, _⟩ := h.2 i p e hp hi
  exact K.fit M w _ _ h3 h1
/-- Is a key there? -/
theorem MapRel.find {k : TypeId} {sh : KSh} [K : TyKey P k sh] {kvs : List (AV × AV)} {es : List MapEntry} (h : MapRel M w sh kvs es) {ka : AV} {v : Value} (hf : sh.fit ka = true) (hr : Reps M w ka v) :
    ((Instr.findKey k v es).run P w = .ok none w ∧ (∀ e ∈ es, e.key ≠ v) ∧ ∀ p ∈ kvs, p.1 ≠ ka) ∨ ∃ j e p, (Instr.findKey k v es).run P w = .ok (some (j, e.val)) w ∧ es[j]? = some e ∧ e.key = v ∧ kvs[j]? = some p ∧ p.1 = ka ∧ Reps M w p.2 e.val ∧ p.2.shut = true := by
  obtain ⟨l, hl⟩ := K.fit M w ka v hf hr
  rcases K.law.find w hl es h.keys with ⟨h1, h2⟩ | ⟨j, e, h1, h2, h3⟩
  · refine .inl ⟨h1, h2, fun p hp e => ?_⟩
    obtain ⟨i, hi⟩ := List.getElem?_of_mem hp
    obtain ⟨hlt, _⟩ := List.getElem?_eq_some_iff.1 hi
    obtain ⟨e0, he0⟩ : ∃ e0, es[i]? = some e0 := ⟨_, List.getElem?_eq_getElem (by rw [h.1]; exact hlt)⟩
    obtain ⟨g1, _, g3, _⟩ := h.2 i p e0 hi he0
    subst e
    exact h2 e0 (List.mem_of_getElem? he0) (KSh.only hf g1 hr)
  · obtain ⟨hlt, _⟩ := List.getElem?_eq_some_iff.1 h2
    obtain ⟨p, hp⟩ : ∃ p, kvs[j]? = some p := ⟨_, List.getElem?_eq_getElem (by rw [← h.1]; exact hlt)⟩
    obtain ⟨g1, g2, g3, g4⟩ := h.2 j p e hp h2
    subst h3
    exact .inr ⟨j, e, p, h1, h2, rfl, hp, KSh.inj g3 hf g1 hr, g2, g4⟩
theorem MapAt.get {id : Int} {sh : KSh} {kvs : List (AV × AV)} (h : MapAt base M w id sh kvs) (hp : sh.plain = true) : ∃ (b : Nat) (es : Array MapEntry) (clock : Nat) (kvs0 : List (AV × AV)), M.ob id = some b ∧ base ≤ b ∧ w.heap[b]? = some (.map es clock) ∧ MapKept.Stamped es clock ∧ MapRel M w sh kvs0 es.toList ∧ kvs0.Perm kvs := by
  obtain ⟨b, o, h1, h2, h3, h4⟩ := h
  cases sh <;> simp only [MapIs, KSh.plain, Bool.false_eq_true] at h4 hp
  · obtain ⟨es, c, k0, rfl, h5, h6, h7⟩ := h4; exact ⟨b, es, c, k0, h1, h2, h3, h5, h6, h7⟩
  · obtain ⟨es, c, k0, rfl, h5, h6, h7⟩ := h4; exact ⟨b, es, c, k0, h1, h2, h3, h5, h6, h7⟩
theorem MapAt.put {id : Int} {sh : KSh} {kvs kvs0 : List (AV × AV)} (hp : sh.plain = true) (b : Nat) (es : Array MapEntry) (clock : Nat) (h1 : M.ob id = some b) (h2 : base ≤ b) (h3 : w.heap[b]? = some (.map es clock)) (h4 : MapKept.Stamped es clock) (h5 : MapRel M w sh kvs0 es.toList) (h6 : kvs0.Perm kvs) : MapAt base M w id sh kvs := by
  refine ⟨b, _, h1, h2, h3, ?_⟩
  cases sh <;> simp only [MapIs, KSh.plain, Bool.false_eq_true] at hp ⊢
  · exact ⟨es, clock, kvs0, rfl, h4, h5, h6⟩
  · exact ⟨es, clock, kvs0, rfl, h4, h5, h6⟩
/-- No key is there twice. -/
theorem MapRel.pairs {sh : KSh} {kvs : List (AV × AV)} {es : Array MapEntry} {c : Nat} (hs : Go.MapKept.Stamped es c) (hm : MapRel M w sh kvs es.toList) {i j : Nat} {p q : AV × AV} (hi : kvs[i]? = some p) (hj : kvs[j]? = some q) (he : p.1 = q.1) : i = j := by
  obtain ⟨_, _, hpw⟩ := (Go.MapKept.stamped_iff es c).1 hs
  obtain ⟨li, _⟩ := List.getElem?_eq_some_iff.1 hi
  obtain ⟨lj, _⟩ := List.getElem?_eq_some_iff.1 hj
  have li' : i < es.toList.length := by rw [hm.1]; exact li
  have lj' : j < es.toList.length := by rw [hm.1]; exact lj
  obtain ⟨g1, _, g3, _⟩ := hm.2 i p _ hi (List.getElem?_eq_getElem li')
  obtain ⟨k1, _, k3, _⟩ := hm.2 j q _ hj (List.getElem?_eq_getElem lj')
  have hk : (es.toList[i]'li').key = (es.toList[j]'lj').key := KSh.only g3 g1 (by rw [he]; exact k1)
  rcases Nat.lt_trichotomy i j with h | h | h
  · exact absurd hk (List.pairwise_iff_getElem.1 hpw i j li' lj' h)
  · exact h
  · exact absurd hk.symm (List.pairwise_iff_getElem.1 hpw j i lj' li' h)
theorem split_at {α : Type} {l : List α} {j : Nat} {p : α} (h : l[j]? = some p) : l = l.take j ++ p :: l.drop (j + 1) := by
  obtain ⟨h1, rfl⟩ := List.getElem?_eq_some_iff.1 h
  rw [← List.drop_eq_getElem_cons h1, List.take_append_drop]
/-- Where a key stands, and what stands besides. -/
theorem perm_split {α : Type} {l0 kl kr : List α} {p : α} {j : Nat} (h : l0.Perm (kl ++ p :: kr)) (hj : l0[j]? = some p) : (l0.take j ++ l0.drop (j + 1)).Perm (kl ++ kr) := by
  have h1 : (p :: (l0.take j ++ l0.drop (j + 1))).Perm (p :: (kl ++ kr)) := by
    refine List.Perm.trans ?_ (h.trans List.perm_middle)
    have h2 := split_at hj
    exact List.perm_middle.symm.trans (List.Perm.of_eq h2.symm)
  exact List.Perm.cons_inv h1

/-! ### Operations -/
theorem S_makeMap {t k e : TypeId} {sh : KSh} [T : TyMap P t k e] [K : TyKey P k sh] {nx : Int} (hs : aput sl dst (.map next) = sl') (hn : next + 1 = nx) (h : AOPS P ops r sl' ⟨objs, (next, .mp sh []) :: toks, nx⟩ Q) : AOPS P ops (⟨dst, .makeMap t none, ty, pos, after, none⟩ :: r) sl ⟨objs, toks, next⟩ Q :=
  AOPS_eff (av := .map next) rfl (fun base Fi M a w hr => by
    have S := hr.2.2
    have T := Stp.newObj S (.map #[] 0)
    subst hn
    refine ⟨.map (some w.heap.size), w.alloc (.map #[] 0), M.obj next w.heap.size, .inl ?_, ?_, ?_, T⟩
    · simp [execOp, Instr.makeMap]
    · unfold Reps; exact ⟨w.heap.size, by simp [MM.obj], rfl⟩
    · have hsz : (w.alloc (.map #[] 0)).heap.size = w.heap.size + 1 := by simp
      have N := St.newObj S (cells := []) (vs := #[]) RepsL.nil 0
      have hold : ∀ b, b < w.heap.size → (w.alloc (.map #[] 0)).heap[b]? = w.heap[b]? := fun b hb => Below.heap_alloc w _ b hb
      refine ⟨by have := S.base_le; omega, fun id cs hl => ?_, fun id top hl => ?_, fun id s kvs hl => ?_, N.inj, N.dis, N.tinj, fun i q h => by rw [hsz]; have := N.obsz i q h; simpa using this, fun i Tk q e ce h1 h2 => by rw [hsz]; have := N.tksz i Tk q e ce h1 h2; simpa using this, N.fresh⟩
      · obtain ⟨h1, b, us, e', h2, h3, h4, h5⟩ := S.obs id cs hl
        exact ⟨h1, b, us, e', T.ob _ _ h2, h3, by rw [hold b (S.obsz id b h2)]; exact h4, RepsL.stp T _ _ h5⟩
      · simp only [alook] at hl
        split at hl
        · cases hl
        · obtain ⟨h1, Tk, h2, h3, h4⟩ := S.tks id top hl
          refine ⟨h1, Tk, h2, h3, fun b e2 ce hb => ?_⟩
          obtain ⟨h5, h6⟩ := h4 b e2 ce hb
          exact ⟨h5, h6.heap (hold b (S.tksz id Tk b e2 ce h2 hb))⟩
      · simp only [alook] at hl
        split at hl
        · rename_i he
          subst he
          cases hl
          exact ⟨(S.fresh _ (Int.le_refl _)).2.2, MapAt.put (kvs0 := []) K.plain w.heap.size #[] 0 (by simp [MM.obj]) S.base_le (heap_alloc_new w _) (Go.MapKept.stamped_empty 0) ⟨rfl, fun i p e hp => by simp at hp⟩ (List.Perm.refl _)⟩
        · exact ⟨(S.mps id s kvs hl).1, (S.mps id s kvs hl).2.stp T fun b o h1 h2 _ => by rw [hold b (S.obsz id b h1)]; exact h2⟩) hs h
theorem run_checkKey_ {k : TypeId} {sh : KSh} [K : TyKey P k sh] {ka : AV} {v : Value} (hf : sh.fit ka = true) (hr : Reps M w ka v) (em : Bool) : (Instr.checkKey em 10000 k v).run P w = .ok () w :=
  let ⟨l, hl⟩ := K.fit M w ka v hf hr
  K.law.check w em hl
theorem run_lookup_ok {t k e : TypeId} [T : TyMap P t k e] {b : Nat} {es : Array MapEntry} {c : Nat} {v u : Value} {j : Nat} (hb : w.heap[b]? = some (.map es c)) (hc : (Instr.checkKey es.isEmpty 10000 k v).run P w = .ok () w) (hf : (Instr.findKey k v es.toList).run P w = .ok (some (j, u)) w) (ok : Bool) : (Instr.lookup t (.map (some b)) v ok).run P w = .ok (if ok then .tuple #[u, .bool true] else u) w := by
  unfold Instr.lookup
  simp only [Sem.run_bind, run_underlying T.und, Result.andThen_ok, Go.MapKept.run_getObj_map hb, Sem.run_pure, hc, hf]
theorem run_lookup_none {t k e : TypeId} [T : TyMap P t k e] {b : Nat} {es : Array MapEntry} {c : Nat} {v z : Value} (hb : w.heap[b]? = some (.map es c)) (hc : (Instr.checkKey es.isEmpty 10000 k v).run P w = .ok () w) (hf : (Instr.findKey k v es.toList).run P w = .ok none w) (hz : (zeroValue e).run P w = .ok z w) (ok : Bool) : (Instr.lookup t (.map (some b)) v ok).run P w = .ok (if ok then .tuple #[z, .bool false] else z) w := by
  unfold Instr.lookup
  simp only [Sem.run_bind, run_underlying T.und, Result.andThen_ok, Go.MapKept.run_getObj_map hb, Sem.run_pure, hc, hf, hz]
theorem lookAt {t k e : TypeId} {sh : KSh} [T : TyMap P t k e] [K : TyKey P k sh] {id : Int} {ka xv : AV} {kvs : List (AV × AV)} (S : St base Fi M w σ) (ho : alook σ.toks id = some (.mp sh kvs)) (hk : sh.fit ka = true) {m v : Value} (hm : Reps M w (.map id) m) (hv : Reps M w ka v) (hin : (ka, xv) ∈ kvs) (ok : Bool) : ∃ u, Reps M w xv u ∧ (Instr.lookup t m v ok).run P w = .ok (if ok then .tuple #[u, .bool true] else u) w := by
  unfold Reps at hm
  obtain ⟨b, hb, rfl⟩ := hm
  obtain ⟨b', es, c, kvs0, h1, h2, h3, h4, h5, hP⟩ := (S.mps id sh kvs ho).2.get K.plain
  rw [hb] at h1; cases h1
  have hin := hP.mem_iff.2 hin
  rcases h5.find (P := P) (k := k) hk hv with ⟨_, _, g⟩ | ⟨j, en, p, g1, g2, g3, g4, g5, g6, _⟩
  · exact absurd rfl (g _ hin)
  · obtain ⟨i, hi⟩ := List.getElem?_of_mem hin
    have := h5.pairs h4 hi g4 g5.symm
    subst this
    rw [hi] at g4; cases g4
    exact ⟨en.val, g6, run_lookup_ok h3 (run_checkKey_ hk hv _) g1 ok⟩
theorem S_lookup_ok {t k e : TypeId} {sh : KSh} [T : TyMap P t k e] [K : TyKey P k sh] {id : Int} {ka xv : AV} {kvs : List (AV × AV)} (hx : aev sl x = .map id) (hy : aevo sl y = some ka) (ho : alook toks id = some (.mp sh kvs)) (hk : sh.fit ka = true) (hm : (ka, xv) ∈ kvs) (hs : aput sl dst (.tup [xv, .bool true]) = sl') (h : AOPS P ops r sl' ⟨objs, toks, next⟩ Q) : AOPS P ops (⟨dst, .lookup t x y true, ty, pos, after, none⟩ :: r) sl ⟨objs, toks, next⟩ Q :=
  AOPS_eff (av := .tup [xv, .bool true]) rfl (fun base Fi M a w hr => by
    obtain ⟨u, hu, hrun⟩ := lookAt (P := P) (t := t) hr.2.2 ho hk (ev1 hr.2.1 hx) (ev1 hr.2.1 (aevo_eq hy)) hm true
    refine ⟨.tuple #[u, .bool true], w, M, .inl ?_, ?_, hr.2.2, Stp.refl _ _ _ _⟩
    · simp only [execOp, Sem.run_bind, hrun, Result.andThen_ok, Sem.run_pure, if_true]
    · unfold Reps; exact ⟨_, rfl, RepsL.cons hu (RepsL.one Reps_bool)⟩) hs h
theorem S_lookup_at {t k e : TypeId} {sh : KSh} [T : TyMap P t k e] [K : TyKey P k sh] {id : Int} {ka xv : AV} {kvs : List (AV × AV)} (hx : aev sl x = .map id) (hy : aevo sl y = some ka) (ho : alook toks id = some (.mp sh kvs)) (hk : sh.fit ka = true) (hm : (ka, xv) ∈ kvs) (hs : aput sl dst xv = sl') (h : AOPS P ops r sl' ⟨objs, toks, next⟩ Q) : AOPS P ops (⟨dst, .lookup t x y false, ty, pos, after, none⟩ :: r) sl ⟨objs, toks, next⟩ Q :=
  AOPS_eff (av := xv) rfl (fun base Fi M a w hr => by
    obtain ⟨u, hu, hrun⟩ := lookAt (P := P) (t := t) hr.2.2 ho hk (ev1 hr.2.1 hx) (ev1 hr.2.1 (aevo_eq hy)) hm false
    refine ⟨u, w, M, .inl ?_, hu, hr.2.2, Stp.refl _ _ _ _⟩
    simp only [execOp, Sem.run_bind, hrun, Result.andThen_ok, Sem.run_pure, Bool.false_eq_true, if_false]) hs h
theorem zv1 {zv : Value} {za : AV} (h : zvF [zv] = some [za]) : cav zv = za := by
  have := zvF_ok h
  simpa using this
theorem zero1 {e : TypeId} {zv : Value} [Z : TyZero P e false [zv]] (w : World) : (zeroValue e).run P w = .ok zv w := by
  obtain ⟨i, z, h1, h2, h3, h4⟩ := Z.zero
  have hz : (zeroValue e).run P w = .ok z w := by simp [zeroValue, typeInfo, h1, h2]
  rw [hz]
  cases z <;> simp_all [Value.cells]
theorem lookNo {t k e : TypeId} {sh : KSh} [T : TyMap P t k e] [K : TyKey P k sh] {zv : Value} [Z : TyZero P e false [zv]] {id : Int} {ka : AV} {kvs : List (AV × AV)} (S : St base Fi M w σ) (ho : alook σ.toks id = some (.mp sh kvs)) (hk : sh.fit ka = true) {m v : Value} (hm : Reps M w (.map id) m) (hv : Reps M w ka v) (hin : ∀ p ∈ kvs, p.1 ≠ ka) (ok : Bool) : (Instr.lookup t m v ok).run P w = .ok (if ok then .tuple #[zv, .bool false] else zv) w := by
  unfold Reps at hm
  obtain ⟨b, hb, rfl⟩ := hm
  obtain ⟨b', es, c, kvs0, h1, h2, h3, h4, h5, hP⟩ := (S.mps id sh kvs ho).2.get K.plain
  rw [hb] at h1; cases h1
  rcases h5.find (P := P) (k := k) hk hv with ⟨g, _, _⟩ | ⟨j, en, p, g1, g2, g3, g4, g5, g6, _⟩
  · exact run_lookup_none h3 (run_checkKey_ hk hv _) g (zero1 w) ok
  · exact absurd g5 (hin p (hP.mem_iff.1 (List.mem_of_getElem? g4)))
theorem S_lookup_no {t k e : TypeId} {sh : KSh} [T : TyMap P t k e] [K : TyKey P k sh] {zv : Value} [Z : TyZero P e false [zv]] {id : Int} {ka za : AV} {kvs : List (AV × AV)} (hx : aev sl x = .map id) (hy : aevo sl y = some ka) (ho : alook toks id = some (.mp sh kvs)) (hk : sh.fit ka = true) (hm : ∀ p ∈ kvs, p.1 ≠ ka) (hz : zvF [zv] = some [za]) (hs : aput sl dst (.tup [za, .bool false]) = sl') (h : AOPS P ops r sl' ⟨objs, toks, next⟩ Q) : AOPS P ops (⟨dst, .lookup t x y true, ty, pos, after, none⟩ :: r) sl ⟨objs, toks, next⟩ Q :=
  AOPS_eff (av := .tup [za, .bool false]) rfl (fun base Fi M a w hr => by
    have hrun := lookNo (P := P) (t := t) (zv := zv) hr.2.2 ho hk (ev1 hr.2.1 hx) (ev1 hr.2.1 (aevo_eq hy)) hm true
    refine ⟨.tuple #[zv, .bool false], w, M, .inl ?_, ?_, hr.2.2, Stp.refl _ _ _ _⟩
    · simp only [execOp, Sem.run_bind, hrun, Result.andThen_ok, Sem.run_pure, if_true]
    · unfold Reps; exact ⟨_, rfl, RepsL.cons (zv1 hz ▸ cav_reps zv) (RepsL.one Reps_bool)⟩) hs h
theorem S_lookup_z {t k e : TypeId} {sh : KSh} [T : TyMap P t k e] [K : TyKey P k sh] {zv : Value} [Z : TyZero P e false [zv]] {id : Int} {ka za : AV} {kvs : List (AV × AV)} (hx : aev sl x = .map id) (hy : aevo sl y = some ka) (ho : alook toks id = some (.mp sh kvs)) (hk : sh.fit ka = true) (hm : ∀ p ∈ kvs, p.1 ≠ ka) (hz : zvF [zv] = some [za]) (hs : aput sl dst za = sl') (h : AOPS P ops r sl' ⟨objs, toks, next⟩ Q) : AOPS P ops (⟨dst, .lookup t x y false, ty, pos, after, none⟩ :: r) sl ⟨objs, toks, next⟩ Q :=
  AOPS_eff (av := za) rfl (fun base Fi M a w hr => by
    have hrun := lookNo (P := P) (t := t) (zv := zv) hr.2.2 ho hk (ev1 hr.2.1 hx) (ev1 hr.2.1 (aevo_eq hy)) hm false
    refine ⟨zv, w, M, .inl ?_, zv1 hz ▸ cav_reps zv, hr.2.2, Stp.refl _ _ _ _⟩
    simp only [execOp, Sem.run_bind, hrun, Result.andThen_ok, Sem.run_pure, Bool.false_eq_true, if_false]) hs h

/-! ### A map turned -/
theorem setObj_ok (S : St base Fi M w σ) {id : Int} {sh sh' : KSh} {kvs kvs' : List (AV × AV)} (ho : alook σ.toks id = some (.mp sh kvs)) {b : Nat} {o o' : Obj} (hb : M.ob id = some b) (hg : w.heap[b]? = some o) (hm : MapIs M w kvs' b o' sh') :
    St base Fi M { w with heap := w.heap.setIfInBounds b o' } ⟨σ.objs, aset σ.toks id (.mp sh' kvs'), σ.next⟩ ∧ Stp base Fi M w M { w with heap := w.heap.setIfInBounds b o' } := by
  obtain ⟨⟨hF, hZ⟩, b', o0, h1, hbase, h3, h30⟩ := S.mps id sh kvs ho
  rw [hb] at h1; cases h1
  have hno : NoRow o := by rw [h3] at hg; cases hg; exact h30.noRow
  generalize hw : ({ w with heap := w.heap.setIfInBounds b o' } : World) = w'
  have hH : w'.heap = w.heap.setIfInBounds b o' := by rw [← hw]
  have hsz : w'.heap.size = w.heap.size := by rw [hH]; simp
  have hlt : b < w.heap.size := (Array.getElem?_eq_some_iff.1 hg).1
  have hnew : w'.heap[b]? = some o' := by rw [hH, Array.getElem?_setIfInBounds]; simp [hlt]
  have hoth : ∀ q, q ≠ b → w'.heap[q]? = w.heap[q]? := fun q hq => by rw [hH, Array.getElem?_setIfInBounds, if_neg (Ne.symm hq)]
  have T : Stp base Fi M w M w' := by
    refine ⟨by rw [← hw], by rw [← hw], by rw [← hw], by omega, fun k hk => hoth k (by omega), fun _ _ h => h, fun id T h => ⟨T, h, rfl, .inl rfl⟩, fun q j v hs hc => ?_, fun id' q hf hq => ?_, fun _ _ h => h, fun id' T q e' ce hf hT hq => ?_⟩
    · have hne : q ≠ b := by rintro rfl; exact hZ (hs.1 id hb)
      exact ⟨(World.cell?_of_block (w := w) (a := ⟨q, j, none⟩) (hoth q hne)).trans hc, hs⟩
    · refine hoth q ?_
      rintro rfl; exact hF (S.inj id id' q hb hq ▸ hf)
    · refine hoth q ?_
      rintro rfl; exact S.dis id id' q T e' ce hb hT hq
  refine ⟨⟨by rw [hsz]; exact S.base_le, fun i cs hl => ?_, fun i top hl => ?_, fun i s ks hl => ?_, S.inj, S.dis, S.tinj, fun i q h => by rw [hsz]; exact S.obsz i q h, fun i Tk q e ce h1 h2 => by rw [hsz]; exact S.tksz i Tk q e ce h1 h2, S.fresh⟩, T⟩
  · obtain ⟨h1, q, us, e', h2, h3, h4, h5⟩ := S.obs i cs hl
    exact ⟨h1, q, us, e', h2, h3, by rw [hoth q (by rintro rfl; rw [hg] at h4; exact hno _ _ _ (Option.some.inj h4))]; exact h4, RepsL.stp T _ _ h5⟩
  · simp only [alook_aset] at hl
    split at hl
    · rw [ho] at hl; cases hl
    · obtain ⟨h1, Tk, h2, h3, h4⟩ := S.tks i top hl
      refine ⟨h1, Tk, h2, h3, fun q e' ce hq => ?_⟩
      obtain ⟨h5, h6⟩ := h4 q e' ce hq
      exact ⟨h5, h6.heap (hoth q (by rintro rfl; exact S.dis id i q Tk e' ce hb h2 hq))⟩
  · simp only [alook_aset] at hl
    split at hl
    · rename_i he
      subst he
      rw [ho] at hl
      cases hl
      exact ⟨⟨hF, hZ⟩, b, o', hb, hbase, hnew, hm.map fun x v _ g => Reps.stp T x v g⟩
    · rename_i he
      exact ⟨(S.mps i s ks hl).1, (S.mps i s ks hl).2.stp T fun q o1 h1 h2 _ => by rw [hoth q (by rintro rfl; exact he (S.inj id i q hb h1))]; exact h2⟩
theorem MapIs.plain {sh : KSh} (hp : sh.plain = true) {kvs kvs0 : List (AV × AV)} {b : Nat} {es : Array MapEntry} {c : Nat} (h1 : Go.MapKept.Stamped es c) (h2 : MapRel M w sh kvs0 es.toList) (h3 : kvs0.Perm kvs) : MapIs M w kvs b (.map es c) sh := by
  cases sh <;> simp only [MapIs, KSh.plain, Bool.false_eq_true] at hp ⊢
  · exact ⟨es, c, kvs0, rfl, h1, h2, h3⟩
  · exact ⟨es, c, kvs0, rfl, h1, h2, h3⟩
theorem setMap_ok (S : St base Fi M w σ) {id : Int} {sh : KSh} (hp : sh.plain = true) {kvs kvs' kvs0 : List (AV × AV)} (ho : alook σ.toks id = some (.mp sh kvs)) {b : Nat} {es es' : Array MapEntry} {c c' : Nat} (hb : M.ob id = some b) (hg : w.heap[b]? = some (.map es c)) (hst : Go.MapKept.Stamped es' c') (hm : MapRel M w sh kvs0 es'.toList) (hP : kvs0.Perm kvs') :
    St base Fi M { w with heap := w.heap.setIfInBounds b (.map es' c') } ⟨σ.objs, aset σ.toks id (.mp sh kvs'), σ.next⟩ ∧ Stp base Fi M w M { w with heap := w.heap.setIfInBounds b (.map es' c') } :=
  setObj_ok S ho hb hg (MapIs.plain hp hst hm hP)
theorem run_mapUpdate_new {t k e : TypeId} [T : TyMap P t k e] {b : Nat} {es : Array MapEntry} {c : Nat} {v u : Value} (hb : w.heap[b]? = some (.map es c)) (hc : (Instr.checkKey false 10000 k v).run P w = .ok () w) (hf : (Instr.findKey k v es.toList).run P w = .ok none w) : (Instr.mapUpdate t (.map (some b)) v u).run P w = .ok () { w with heap := w.heap.setIfInBounds b (.map (es.push ⟨v, u, c⟩) (c + 1)) } := by
  unfold Instr.mapUpdate
  simp only [Sem.run_bind, run_underlying T.und, Result.andThen_ok, Go.MapKept.run_getObj_map hb, hc, hf, Go.MapKept.run_setObj_map _ hb]
theorem run_mapUpdate_old {t k e : TypeId} [T : TyMap P t k e] {b j : Nat} {es : Array MapEntry} {c : Nat} {v u : Value} {en : MapEntry} (hb : w.heap[b]? = some (.map es c)) (hc : (Instr.checkKey false 10000 k v).run P w = .ok () w) (hf : (Instr.findKey k v es.toList).run P w = .ok (some (j, en.val)) w) (hj : es[j]? = some en) (hk : en.key = v) (hstay : (Instr.keyThatStays v v).run P w = .ok v w) : (Instr.mapUpdate t (.map (some b)) v u).run P w = .ok () { w with heap := w.heap.setIfInBounds b (.map (es.modify j fun e => { e with key := v, val := u }) c) } := by
  unfold Instr.mapUpdate
  simp only [Sem.run_bind, run_underlying T.und, Result.andThen_ok, Go.MapKept.run_getObj_map hb, hc, hf, hj, Option.map_some, Option.getD_some, hk, hstay, Go.MapKept.run_setObj_map _ hb]
theorem S_mapUpdate_new {t k e : TypeId} {sh : KSh} [T : TyMap P t k e] [K : TyKey P k sh] {id : Int} {ka xa xb : AV} {kvs : List (AV × AV)} (hx : aev sl x = .map id) (hy : aevo sl y = some ka) (hz : aevo sl z = some xa) (ho : alook toks id = some (.mp sh kvs)) (hk : sh.fit ka = true) (hm : ∀ p ∈ kvs, p.1 ≠ ka) (hw : xa.wk = xb) (hsh : xb.shut = true) (ht : asetF toks id (.mp sh (kvs ++ [(ka, xb)])) = some toks') (hs : aput sl dst .und = sl') (h : AOPS P ops r sl' ⟨objs, toks', next⟩ Q) : AOPS P ops (⟨dst, .mapUpdate t x y z, ty, pos, after, none⟩ :: r) sl ⟨objs, toks, next⟩ Q :=
  AOPS_eff (av := .und) rfl (fun base Fi M a w hr => by
    have h1 := ev1 hr.2.1 hx
    have h2 := ev1 hr.2.1 (aevo_eq hy)
    have h3 := hw ▸ Reps.wk _ _ (ev1 hr.2.1 (aevo_eq hz))
    unfold Reps at h1
    obtain ⟨b, hb, hmv⟩ := h1
    obtain ⟨b', es, c, kvs0, g1, g2, g3, g4, g5, hP⟩ := (hr.2.2.mps id sh kvs ho).2.get K.plain
    rw [hb] at g1; cases g1
    rcases g5.find (P := P) (k := k) hk h2 with ⟨g, gk, _⟩ | ⟨j, en, p, _, _, _, q4, q5, _⟩
    · have hrun := run_mapUpdate_new (t := t) (u := a.eval z) g3 (run_checkKey_ hk h2 false) g
      have hrel : MapRel M w sh (kvs0 ++ [(ka, xb)]) (es.push ⟨a.eval y, a.eval z, c⟩).toList := by
        refine ⟨by simp [g5.1], fun i p e hp he => ?_⟩
        rw [Array.toList_push] at he
        by_cases hi : i < kvs0.length
        · rw [List.getElem?_append_left hi] at hp
          rw [List.getElem?_append_left (by rw [g5.1]; exact hi)] at he
          exact g5.2 i p e hp he
        · rw [List.getElem?_append_right (by omega)] at hp
          rw [List.getElem?_append_right (by rw [g5.1]; omega), g5.1] at he
          obtain ⟨q1, q2⟩ := List.getElem?_eq_some_iff.1 hp
          have hi0 : i - kvs0.length = 0 := by simpa using q1
          rw [hi0] at hp he
          cases hp; cases he
          exact ⟨h2, h3, hk, hsh⟩
      obtain ⟨N, NT⟩ := setMap_ok hr.2.2 K.plain ho hb g3 (Go.MapKept.stamped_push g4 gk) hrel (hP.append_right [(ka, xb)])
      rw [show aset toks id (.mp sh (kvs ++ [(ka, xb)])) = toks' from asetF_ok ht] at N
      exact ⟨undef, _, M, .inr ⟨by simp only [execOp, hmv, Sem.run_bind, hrun, Result.andThen_ok, Sem.run_pure], rfl⟩, by unfold Reps; rfl, N, NT⟩
    · exact absurd q5 (hm p (hP.mem_iff.1 (List.mem_of_getElem? q4)))) hs h
theorem S_mapUpdate_old {t k e : TypeId} {sh : KSh} [T : TyMap P t k e] [K : TyKey P k sh] {id : Int} {ka xa xb xo : AV} {kvs kl kr : List (AV × AV)} (hx : aev sl x = .map id) (hy : aevo sl y = some ka) (hz : aevo sl z = some xa) (ho : alook toks id = some (.mp sh kvs)) (hk : sh.fit ka = true) (hm : kvs = kl ++ (ka, xo) :: kr) (hw : xa.wk = xb) (hsh : xb.shut = true) (ht : asetF toks id (.mp sh (kl ++ (ka, xb) :: kr)) = some toks') (hs : aput sl dst .und = sl') (h : AOPS P ops r sl' ⟨objs, toks', next⟩ Q) : AOPS P ops (⟨dst, .mapUpdate t x y z, ty, pos, after, none⟩ :: r) sl ⟨objs, toks, next⟩ Q :=
  AOPS_eff (av := .und) rfl (fun base Fi M a w hr => by
    have h1 := ev1 hr.2.1 hx
    have h2 := ev1 hr.2.1 (aevo_eq hy)
    have h3 := hw ▸ Reps.wk _ _ (ev1 hr.2.1 (aevo_eq hz))
    unfold Reps at h1
    obtain ⟨b, hb, hmv⟩ := h1
    obtain ⟨b', es, c, kvs0, g1, g2, g3, g4, g5, hP⟩ := (hr.2.2.mps id sh kvs ho).2.get K.plain
    rw [hb] at g1; cases g1
    subst hm
    have hin : (ka, xo) ∈ kvs0 := hP.mem_iff.2 (by simp)
    rcases g5.find (P := P) (k := k) hk h2 with ⟨_, _, g⟩ | ⟨j, en, p, q1, q2, q3, q4, q5, _⟩
    · exact absurd rfl (g _ hin)
    · obtain ⟨i0, hi0⟩ := List.getElem?_of_mem hin
      obtain rfl := g5.pairs g4 hi0 q4 q5.symm
      rw [hi0] at q4; cases q4
      have q2' : es[i0]? = some en := by simpa using q2
      obtain ⟨l, hl⟩ := K.fit M w ka _ hk h2
      have hrun := run_mapUpdate_old (t := t) (u := a.eval z) g3 (run_checkKey_ hk h2 false) q1 q2' q3 (K.law.stays w hl)
      have hmod : ∀ i e, (es.modify i0 fun e => { e with key := a.eval y, val := a.eval z }).toList[i]? = some e → (i = i0 ∧ e.key = a.eval y ∧ e.val = a.eval z) ∨ (i ≠ i0 ∧ es.toList[i]? = some e) := by
        intro i e he
        rw [Array.getElem?_toList, Array.getElem?_modify] at he
        split at he
        · rename_i hi
          subst hi
          rw [q2'] at he
          cases he
          exact .inl ⟨rfl, rfl, rfl⟩
        · rename_i hi
          exact .inr ⟨Ne.symm hi, by simpa using he⟩
      have hrel : MapRel M w sh (kvs0.set i0 (ka, xb)) (es.modify i0 fun e => { e with key := a.eval y, val := a.eval z }).toList := by
        refine ⟨by simpa using g5.1, fun i p e hp he => ?_⟩
        rw [List.getElem?_set] at hp
        rcases hmod i e he with ⟨rfl, e1, e2⟩ | ⟨hi, he'⟩
        · rw [if_pos rfl] at hp
          split at hp
          · cases hp
            rw [e1, e2]
            exact ⟨h2, h3, hk, hsh⟩
          · cases hp
        · rw [if_neg (Ne.symm hi)] at hp
          exact g5.2 i p e hp he'
      have hP2 : (kvs0.set i0 (ka, xb)).Perm (kl ++ (ka, xb) :: kr) := by
        have h7 := perm_split hP hi0
        have hlt := (List.getElem?_eq_some_iff.1 hi0).1
        rw [List.set_eq_take_append_cons_drop, if_pos hlt]
        exact List.perm_middle.trans ((h7.cons _).trans List.perm_middle.symm)
      obtain ⟨N, NT⟩ := setMap_ok hr.2.2 K.plain ho hb g3 (Go.MapKept.stamped_modify g4 i0 (fun e => { e with key := a.eval y, val := a.eval z }) (fun _ _ => rfl) fun e _ he => by rw [q2'] at he; cases he; exact q3.symm) hrel hP2
      rw [show aset toks id (.mp sh (kl ++ (ka, xb) :: kr)) = toks' from asetF_ok ht] at N
      exact ⟨undef, _, M, .inr ⟨by simp only [execOp, hmv, Sem.run_bind, hrun, Result.andThen_ok, Sem.run_pure], rfl⟩, by unfold Reps; rfl, N, NT⟩) hs h
end Go.Proofs.Ytnjkklkjlloedaa
