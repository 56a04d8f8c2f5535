/- The abstract machine: bytes. -/
import Derived.Test.YtnjkklkjlloedaaAm13
namespace Go.Proofs.Ytnjkklkjlloedaa
open Go.RowKit
set_option linter.unusedVariables false
set_option linter.unusedSimpArgs false
variable {base : Nat} {Fi : Int → Prop} {M M' M'' : MM} {w w' w'' : World}
variable {P : Program} {ops : Array Oper} {r : List Oper} {sl sl' : List AV} {σ σ' : ASt} {Q : Exit → List AV → ASt → Prop}
variable {dst : Option Tmp} {ty : TypeId} {pos : String} {after : Array Edge} {x y z : Operand} {objs : List (Int × List AV)} {toks : List (Int × Nat)} {next : Int}

/-! ### nil as a buffer -/
theorem adopt_ok {a : Act} (hr : Rel base Fi M a w sl ⟨objs, toks, next⟩) {t sz : Nat} (ht : sl[t]? = some .nils) : ∃ M', Rel base Fi M' a w (sl.set t (.sl (.tok next 0 sz) [] 0)) ⟨objs, (next, 0) :: toks, next + 1⟩ ∧ Stp base Fi M w M' w := by
  have S := hr.2.2
  have hT := (Grew.refl w).tok S (id := next) (T := ⟨sz, 0, none⟩) (.inl rfl) (fun b e' ce h => by cases h)
  refine ⟨M.tok next ⟨sz, 0, none⟩, ⟨hr.1, ?_, ?_⟩, hT⟩
  · obtain ⟨v, hv, hrv⟩ := hr.2.1.get t _ ht
    unfold Reps at hrv
    subst hrv
    have h8 : Reps (M.tok next ⟨sz, 0, none⟩) w (.sl (.tok next 0 sz) [] 0) (.slice none 0 0) := by
      unfold Reps
      exact ⟨none, 0, [], rfl, Nat.le_refl _, by simp, fun _ => rfl, .inl rfl, RepsL.nil, fun _ => rfl, ⟨sz, 0, none⟩, by simp [MM.tok], rfl, Nat.le_refl _, by simp, fun _ => rfl⟩
    have h9 := (RepsL.stp hT _ _ hr.2.1).set t h8
    have h10 : a.tmps.toList.set t (.slice none 0 0) = a.tmps.toList := by
      apply List.ext_getElem?
      intro i
      rw [List.getElem?_set]
      split
      · rename_i hi; subst hi; rw [hv]; split
        · rfl
        · rename_i hlt; rw [List.getElem?_eq_none (by omega)] at hv; cases hv
      · rfl
    rw [h10] at h9
    exact h9
  · refine (Grew.refl w).tok_st S (.inl rfl) (fun b e' ce h => by cases h) (fun i top h => ?_) (by show next ≤ next + 1; omega) (by show next < next + 1; omega)
    simp only [alook] at h
    split at h
    · rename_i he; cases h; exact .inl ⟨he.symm, rfl⟩
    · rename_i he; exact .inr ⟨Ne.symm he, h⟩
theorem setF_ok : ∀ {l r : List AV} {t : Nat} {v : AV}, setF l t v = some r → l.set t v = r
  | [], r, t, v, h => by simp [setF] at h
  | c :: cs, r, 0, v, h => by simp [setF] at h; simp [h]
  | c :: cs, r, t + 1, v, h => by
    simp only [setF] at h
    split at h
    · rename_i q hq; cases h; simp [setF_ok hq]
    · cases h
theorem AWP_adopt {c : Code} (t sz : Nat) (ht : sl[t]? = some .nils) (hs : setF sl t (.sl (.tok next 0 sz) [] 0) = some sl') (h : AWP P c sl' ⟨objs, (next, 0) :: toks, next + 1⟩ Q) : AWP P c sl ⟨objs, toks, next⟩ Q := by
  intro base Fi M0 w0 M a w hst hr
  obtain ⟨M', h1, h2⟩ := adopt_ok (sz := sz) hr ht
  rw [setF_ok hs] at h1
  exact h base Fi M0 w0 M' a w (hst.trans h2) h1
theorem AOPS_adopt {ops : Array Oper} {l : List Oper} (t sz : Nat) (ht : sl[t]? = some .nils) (hs : setF sl t (.sl (.tok next 0 sz) [] 0) = some sl') (h : AOPS P ops l sl' ⟨objs, (next, 0) :: toks, next + 1⟩ Q) : AOPS P ops l sl ⟨objs, toks, next⟩ Q := by
  intro base Fi M0 w0 M a w hst hr
  obtain ⟨M', h1, h2⟩ := adopt_ok (sz := sz) hr ht
  rw [setF_ok hs] at h1
  exact h base Fi M0 w0 M' a w (hst.trans h2) h1

/-- Buffers that are not asked for any more. -/
theorem AWP_forget {c : Code} (toks' : List (Int × Nat)) (ht : ∀ id t, alook toks' id = some t → alook toks id = some t) (h : AWP P c sl ⟨objs, toks', next⟩ Q) : AWP P c sl ⟨objs, toks, next⟩ Q := by
  intro base Fi M0 w0 M a w hst hr
  have S := hr.2.2
  exact h base Fi M0 w0 M a w hst ⟨hr.1, hr.2.1, S.base_le, S.obs, fun id t hl => S.tks id t (ht id t hl), S.inj, S.dis, S.tinj, S.obsz, S.tksz, S.fresh⟩
theorem At_region {id : Nat} {ops : Array Oper} {d : Bool} (h : AWP P (.region id ops d) sl σ Q) : AWP P (.region id ops d) sl σ Q := h

/-! ### Bytes -/
theorem bits_xor8 (a b : UInt8) : bits .xor .u8 (a.toNat : Int) (b.toNat : Int) = ((a ^^^ b).toNat : Int) := by
  have ha := a.toNat_lt
  have hb := b.toNat_lt
  have ha' : a.toNat % 2 ^ 8 = a.toNat := Nat.mod_eq_of_lt ha
  have hb' : b.toNat % 2 ^ 8 = b.toNat := Nat.mod_eq_of_lt hb
  have hx : a.toNat ^^^ b.toNat < 2 ^ 8 := Nat.xor_lt_two_pow ha hb
  simp only [bits, BitVec.ofInt_natCast, BitVec.toNat_xor, BitVec.toNat_ofNat, show IntKind.u8.bits = 8 from rfl, ha', hb', UInt8.toNat_xor]
  rw [IntKind.wrap_u8]
  omega
theorem S_xor8 {ops : Array Oper} {r : List Oper} {t t' : TypeId} {a b : UInt8} (hx : aev sl x = bvA a) (hy : aev sl y = bvA b) (hs : aput sl dst (bvA (a ^^^ b)) = sl') (h : AOPS P ops r sl' σ Q) : AOPS P ops (⟨dst, .binOp .xor t x y t', ty, pos, after, none⟩ :: r) sl σ Q :=
  AOPS_bin (k := .u8) (m := a.toNat) (n := b.toNat) hx hy (by simp only [abin, bits_xor8]; rfl) hs h
theorem S_eq8 {ops : Array Oper} {r : List Oper} {t t' : TypeId} {a b : UInt8} (hx : aev sl x = bvA a) (hy : aev sl y = bvA b) (hs : aput sl dst (.bool (a == b)) = sl') (h : AOPS P ops r sl' σ Q) : AOPS P ops (⟨dst, .binOp .eql t x y t', ty, pos, after, none⟩ :: r) sl σ Q :=
  AOPS_bin (k := .u8) (m := a.toNat) (n := b.toNat) hx hy (by
    simp only [abin]
    congr 2
    rw [Bool.eq_iff_iff, beq_iff_eq, beq_iff_eq]
    constructor
    · intro h; exact UInt8.toNat_inj.1 (by omega)
    · rintro rfl; rfl) hs h
theorem S_ne8 {ops : Array Oper} {r : List Oper} {t t' : TypeId} {a b : UInt8} (hx : aev sl x = bvA a) (hy : aev sl y = bvA b) (hs : aput sl dst (.bool (a != b)) = sl') (h : AOPS P ops r sl' σ Q) : AOPS P ops (⟨dst, .binOp .neq t x y t', ty, pos, after, none⟩ :: r) sl σ Q :=
  AOPS_bin (k := .u8) (m := a.toNat) (n := b.toNat) hx hy (by
    simp only [abin]
    congr 2
    rw [Bool.eq_iff_iff, bne_iff_ne, bne_iff_ne]
    constructor
    · rintro h rfl; exact h rfl
    · intro h h2; exact h (UInt8.toNat_inj.1 (by omega))) hs h
/-- An element's address: elements of sz cells. -/
theorem S_indexAddr {ops : Array Oper} {r : List Oper} {t e : TypeId} {sz by_ : Nat} {own : AOwn} {cells : List AV} {n j off : Nat} {k : IntKind} {i : Int} (hx : aev sl x = .sl own cells n) (hy : aev sl y = .int k i) [T : TySl P t e sz by_] (hj : i = (j : Int)) (hi : j < n) (ho : j * sz = off) (hs : aput sl dst (.epr cells off) = sl') (h : AOPS P ops r sl' σ Q) : AOPS P ops (⟨dst, .indexAddr t x y, ty, pos, after, none⟩ :: r) sl σ Q := by
  subst hj ho
  exact AOPS_indexAddr hx hy (by omega) (by simpa using hs) h
theorem S_load_byte {ops : Array Oper} {r : List Oper} {t : TypeId} {off : Nat} {l : List UInt8} (hx : aev sl x = .epr (l.map bvA) off) [T : TyVar P t false 1] (hlt : off < l.length) (hs : aput sl dst (bvA (l.getD off 0)) = sl') (h : AOPS P ops r sl' σ Q) : AOPS P ops (⟨dst, .load t x, ty, pos, after, none⟩ :: r) sl σ Q :=
  S_load_epr hx (by simp [hlt]) hs h

theorem S_inc8 {ops : Array Oper} {r : List Oper} {t t' : TypeId} {a : UInt8} (hx : aev sl x = bvA a) (hy : aev sl y = .int .u8 1) (hs : aput sl dst (bvA (a + 1)) = sl') (h : AOPS P ops r sl' σ Q) : AOPS P ops (⟨dst, .binOp .add t x y t', ty, pos, after, none⟩ :: r) sl σ Q :=
  AOPS_bin (k := .u8) (m := a.toNat) (n := 1) hx hy (by
    have ha := a.toNat_lt
    have e : ((a + 1 : UInt8).toNat : Int) = ((a.toNat : Int) + 1) % 256 := by rw [UInt8.toNat_add]; rfl
    show some (AV.int .u8 (IntKind.u8.wrap ((a.toNat : Int) + 1))) = some (AV.int .u8 ((a + 1 : UInt8).toNat : Int))
    rw [e, IntKind.wrap_u8]) hs h
theorem S_mul {ops : Array Oper} {r : List Oper} {t t' : TypeId} {m n : Int} (hx : aev sl x = .int .i64 m) (hy : aev sl y = .int .i64 n) (hb : -9223372036854775808 ≤ m * n ∧ m * n ≤ 9223372036854775807) (hs : aput sl dst (.int .i64 (m * n)) = sl') (h : AOPS P ops r sl' σ Q) : AOPS P ops (⟨dst, .binOp .mul t x y t', ty, pos, after, none⟩ :: r) sl σ Q :=
  AOPS_bin hx hy (by simp only [abin]; rw [IntKind.wrap_i64]; congr 2; omega) hs h
/-- Slices of bytes. -/
theorem S_slice8_h {ops : Array Oper} {r : List Oper} {t e : TypeId} {by_ : Nat} {own : AOwn} {l : List UInt8} {n m : Nat} {k' : IntKind} {j : Int} (hx : aev sl x = .sl own (l.map bvA) n) [T : TySl P t e 1 by_] (hz : aev sl z = .int k' j) (hh : j = (m : Int)) (hlm : m ≤ n) (hs : aput sl dst (.sl .none ((l.take m).map bvA) m) = sl') (h : AOPS P ops r sl' σ Q) : AOPS P ops (⟨dst, .slice t x none (some z) none, ty, pos, after, none⟩ :: r) sl σ Q :=
  AOPS_slice_h hx hz hh hlm (by rw [Nat.mul_one, ← List.map_take]; exact hs) h
theorem S_slice8_lh {ops : Array Oper} {r : List Oper} {t e : TypeId} {by_ : Nat} {own : AOwn} {l : List UInt8} {n i m : Nat} {k k' : IntKind} {i' j : Int} (hx : aev sl x = .sl own (l.map bvA) n) [T : TySl P t e 1 by_] (hy : aev sl y = .int k i') (hz : aev sl z = .int k' j) (hl : i' = (i : Int)) (hh : j = (m : Int)) (hlm : i ≤ m ∧ m ≤ n) (hs : aput sl dst (.sl .none (((l.drop i).take (m - i)).map bvA) (m - i)) = sl') (h : AOPS P ops r sl' σ Q) : AOPS P ops (⟨dst, .slice t x (some y) (some z) none, ty, pos, after, none⟩ :: r) sl σ Q :=
  AOPS_slice_lh hx hy hz hl hh hlm (by rw [Nat.mul_one, Nat.mul_one, ← List.map_drop, ← List.map_take]; exact hs) h
theorem S_slice8_l {ops : Array Oper} {r : List Oper} {t e : TypeId} {by_ : Nat} {own : AOwn} {l : List UInt8} {n i : Nat} {k : IntKind} {i' : Int} (hx : aev sl x = .sl own (l.map bvA) n) [T : TySl P t e 1 by_] (hy : aev sl y = .int k i') (hl : i' = (i : Int)) (hlm : i ≤ n) (hs : aput sl dst (.sl .none (((l.drop i).take (n - i)).map bvA) (n - i)) = sl') (h : AOPS P ops r sl' σ Q) : AOPS P ops (⟨dst, .slice t x (some y) none none, ty, pos, after, none⟩ :: r) sl σ Q :=
  AOPS_slice_l hx hy hl hlm (by rw [Nat.mul_one, Nat.mul_one, ← List.map_drop, ← List.map_take]; exact hs) h
/-- The least, the most, of two numbers. -/
theorem S_min {ops : Array Oper} {r : List Oper} {t t' : TypeId} {k : IntKind} {m n : Int} (hx : aev sl x = .int k m) (hy : aev sl y = .int k n) (hs : aput sl dst (.int k (min m n)) = sl') (h : AOPS P ops r sl' σ Q) : AOPS P ops (⟨dst, .call { callee := .builtin .min, args := #[x, y], argTypes := #[t, t'] }, ty, pos, after, none⟩ :: r) sl σ Q :=
  AOPS_pure (av := .int k (min m n)) rfl (fun M a w hr => by
    have h1 := ev1 hr hx
    have h2 := ev1 hr hy
    unfold Reps at h1 h2
    refine ⟨.int k (min m n), fun w' _ => ?_, Reps_int⟩
    by_cases hlt : n < m
    · rw [show min m n = n by omega]
      simp [execOp, h1, h2, resolve, invoke, builtin, Builtin.min_, Builtin.min2, hlt]
    · rw [show min m n = m by omega]
      simp [execOp, h1, h2, resolve, invoke, builtin, Builtin.min_, Builtin.min2, hlt]) hs h
theorem S_max {ops : Array Oper} {r : List Oper} {t t' : TypeId} {k : IntKind} {m n : Int} (hx : aev sl x = .int k m) (hy : aev sl y = .int k n) (hs : aput sl dst (.int k (max m n)) = sl') (h : AOPS P ops r sl' σ Q) : AOPS P ops (⟨dst, .call { callee := .builtin .max, args := #[x, y], argTypes := #[t, t'] }, ty, pos, after, none⟩ :: r) sl σ Q :=
  AOPS_pure (av := .int k (max m n)) rfl (fun M a w hr => by
    have h1 := ev1 hr hx
    have h2 := ev1 hr hy
    unfold Reps at h1 h2
    refine ⟨.int k (max m n), fun w' _ => ?_, Reps_int⟩
    by_cases hlt : n > m
    · rw [show max m n = n by omega]
      simp [execOp, h1, h2, resolve, invoke, builtin, Builtin.max_, Builtin.max2, hlt]
    · rw [show max m n = m by omega]
      simp [execOp, h1, h2, resolve, invoke, builtin, Builtin.max_, Builtin.max2, hlt]) hs h

theorem sl_one (own : AOwn) (cells : List AV) (n : Nat) : (AV.sl own cells n).one = true := rfl
theorem nils_one : AV.nils.one = true := rfl
theorem str_one (s : List UInt8) : (AV.str s).one = true := rfl
theorem bvA_one (x : UInt8) : (bvA x).one = true := rfl
theorem S_call_tok {ops : Array Oper} {r : List Oper} {f : Operand} {g : FuncId} {first cap : List AV} {as_ : List Operand} {ats : Array TypeId} {args : List AV} {top sz n : Nat} {cells : List AV} (hf : aev sl f = .fn g first cap) (ha : first ++ as_.map (aev sl) ++ cap = args) (h : ATok P g args top sz cells n) (hc : ∀ (vs : Array Value) (w : World), (callFunc g vs).run P w = .ok (.enter g vs) w) (hs : aput sl dst (.sl (.tok next top sz) cells n) = sl') (hk : AOPS P ops r sl' ⟨objs, (next, top) :: toks, next + 1⟩ Q) : AOPS P ops (⟨dst, .call { callee := .value f, args := as_.toArray, argTypes := ats }, ty, pos, after, none⟩ :: r) sl ⟨objs, toks, next⟩ Q :=
  S_call hf ha (h _) hc hs hk
theorem S_call_val {ops : Array Oper} {r : List Oper} {f : Operand} {g : FuncId} {first cap : List AV} {as_ : List Operand} {ats : Array TypeId} {args : List AV} {R : AV} (hf : aev sl f = .fn g first cap) (ha : first ++ as_.map (aev sl) ++ cap = args) (h : AVal P g args R) (hc : ∀ (vs : Array Value) (w : World), (callFunc g vs).run P w = .ok (.enter g vs) w) (hs : aput sl dst R = sl') (hk : AOPS P ops r sl' σ Q) : AOPS P ops (⟨dst, .call { callee := .value f, args := as_.toArray, argTypes := ats }, ty, pos, after, none⟩ :: r) sl σ Q :=
  S_call hf ha (h _) hc hs hk
/-! ### append(b, make([]byte, m)...) -/
theorem zeroCells_one (m : Nat) : Builtin.zeroCells #[Value.int .u8 0] m = (byteCells ⟨(List.replicate m 0).toArray⟩).toArray := by
  apply Array.ext
  · simp [Builtin.zeroCells, byteCells]
  · intro i h1 h2
    simp [Builtin.zeroCells, byteCells, Nat.mod_one]
def growsB (n m c b : Nat) : Prop := c < n + m → Builtin.nextslicecap (n + m) c * b ≤ 281474976710656
theorem append_zeros_eq {t ti ts e : TypeId} {i : TypeInfo} {k : IntKind} {z : Value} (ht : P.underlying t = some (.slice e)) (hti : P.underlying ti = some (.int k)) (hts : P.underlying ts = some .string) (hi : P.info? e = some i) (hsz : i.size = 1) (hz : i.zero = some z) (hzc : z.cells = #[.int .u8 0])
    (A : Option Addr) (n c m : Nat) (kx : IntKind) (hb : (n + m) * i.bytes ≤ 140737488355328 ∧ n + m ≤ 1000000000000) (ty : TypeId) (w : World) :
    (Builtin.append_ #[t, ti] ty #[.slice A n c, .int kx m]).run P w = (Builtin.append_ #[t, ts] ty #[.slice A n c, .string ⟨(List.replicate m 0).toArray⟩]).run P w := by
  have hw : IntKind.i64.wrap (m : Int) = m := by rw [IntKind.wrap_i64]; omega
  have hneg : ¬ ((m : Int) < 0) := by omega
  have hmb : m * i.bytes ≤ 140737488355328 := Nat.le_trans (Nat.mul_le_mul_right _ (Nat.le_add_left m n)) hb.1
  have hbig : ¬ (281474976710656 < (m : Int) * (i.bytes : Int)) := by rw [← Int.natCast_mul]; omega
  have hsize : (⟨(List.replicate m 0).toArray⟩ : ByteArray).size = m := by simp [ByteArray.size]
  have hf : ∀ w' : World, (Builtin.firstCells 1 m (.string ⟨(List.replicate m 0).toArray⟩)).run P w' = .ok (byteCells ⟨(List.replicate m 0).toArray⟩).toArray w' := fun w' => by
    have := firstCells_string (P := P) ⟨(List.replicate m 0).toArray⟩ w'
    rwa [hsize] at this
  have h63' : ¬ (9223372036854775807 < ((n : Int) + (m : Int))) := by omega
  have hbytes : growsB n m c i.bytes := fun h => growslice_fits h hb.1
  have hzc' : Builtin.zeroCells z.cells m = (byteCells ⟨(List.replicate m 0).toArray⟩).toArray := by rw [hzc]; exact zeroCells_one m
  generalize (⟨(List.replicate m 0).toArray⟩ : ByteArray) = s at *
  by_cases hm : m = 0
  · subst hm
    have hw0 : IntKind.i64.wrap 0 = 0 := by rw [IntKind.wrap_i64]; rfl
    have hz0 : (byteCells s) = [] := List.eq_nil_of_length_eq_zero (by rw [byteCells_length, hsize])
    rw [hz0] at hf
    have h63'' : ¬ (9223372036854775807 < (n : Int)) := by omega
    by_cases hroom : n ≤ c
    · simp [Builtin.append_, run_underlying ht, run_underlying hti, run_underlying hts, sizeOf, typeInfo, zeroValue, hi, hz, hsz, asInt, asIntOf, Builtin.lenOf, hroom, hw0, hsize, hf, hz0]
    · have h48' : ¬ (281474976710656 < Builtin.nextslicecap n c * i.bytes) := by have := hbytes (by omega); simp only [Nat.add_zero] at this; omega
      simp [Builtin.append_, run_underlying ht, run_underlying hti, run_underlying hts, sizeOf, typeInfo, zeroValue, hi, hz, hsz, asInt, asIntOf, Builtin.lenOf, hroom, hw0, hsize, hf, hz0, h63'', h48', Question.forced, newRow, grownCap]
  · by_cases hroom : n + m ≤ c
    · simp [Builtin.append_, run_underlying ht, run_underlying hti, run_underlying hts, sizeOf, typeInfo, zeroValue, hi, hz, hsz, asInt, asIntOf, Builtin.lenOf, hroom, hw, hneg, hbig, hsize, hf, hm, hzc']
    · have h48' : ¬ (281474976710656 < Builtin.nextslicecap (n + m) c * i.bytes) := by have := hbytes (by omega); omega
      simp [Builtin.append_, run_underlying ht, run_underlying hti, run_underlying hts, sizeOf, typeInfo, zeroValue, hi, hz, hsz, asInt, asIntOf, Builtin.lenOf, hroom, hw, hneg, hbig, hsize, hf, hm, hzc', h63', h48', Question.forced, newRow, grownCap]
/-- Zeros behind bytes of the call's own. -/
theorem S_append_zeros {ops : Array Oper} {r : List Oper} {t ti e : TypeId} (ts : TypeId) {by_ top : Nat} {id : Int} {cells : List AV} {n : Nat} (m : Nat) {k k' : IntKind} {i' : Int} {toks' : List (Int × Nat)} (hx : aev sl x = .sl (.tok id top 1) cells n) (hy : aev sl y = .int k i') [T : TySl P t e 1 by_] [Z : TyZero P e false [.int .u8 0]] [TI : TyInt P ti k'] (TS : TyStr P ts) (htk : alook toks id = some top) (hi : i' = (m : Int)) (hb : (n + m) * by_ ≤ 140737488355328 ∧ n + m ≤ 1000000) (ht : asetF toks id (top + m) = some toks') (hs : aput sl dst (.sl (.tok id (top + m) 1) (cells ++ (List.replicate m 0).map bvA) (n + m)) = sl') (h : AOPS P ops r sl' ⟨objs, toks', next⟩ Q) : AOPS P ops (⟨dst, .call { callee := .builtin .append, args := #[x, y], argTypes := #[t, ti] }, ty, pos, after, none⟩ :: r) sl ⟨objs, toks, next⟩ Q := by
  subst hi
  refine AOPS_eff rfl ?_ hs h
  intro base Fi M a w hr
  have hl : (List.replicate m (0 : UInt8)).length = m := by simp
  have hE := E_append_tok (P := P) (x := x) (y := .const (.string ⟨(List.replicate m 0).toArray⟩)) (t := t) (tx := ts) (dst := dst) (ty := ty) (pos := pos) (after := after) (σ := ⟨objs, toks, next⟩) hx (av := .str (List.replicate m 0)) (by
    simp only [aev, cav]
    rw [if_pos (by simp [ByteArray.size]; omega)]) htk (SrcOk_str TS) (by rw [hl]; omega) rfl base Fi M a w hr
  rw [hl] at hE
  obtain ⟨v, w', M', h1, h2⟩ := hE
  rw [asetF_ok ht] at h2
  refine ⟨v, w', M', ?_, h2⟩
  have g1 := ev1 hr.2.1 hx
  have g2 := ev1 hr.2.1 hy
  unfold Reps at g1 g2
  obtain ⟨A, c, vs, g1, _⟩ := g1
  obtain ⟨i, z, k1, k2, k3, k4⟩ := T.info
  obtain ⟨i2, z2, q1, q2, q3, _⟩ := Z.zero
  rw [k1] at q1; cases q1
  rw [k2] at q2; cases q2
  have hc : z.cells = #[.int .u8 0] := by apply Array.ext'; simpa using q3
  have he := append_zeros_eq T.und TI.und TS.und k1 k3 k2 hc A n c m k (by rw [k4.1]; omega) ty w
  have gc : a.eval (.const (.string ⟨(List.replicate m 0).toArray⟩)) = .string ⟨(List.replicate m 0).toArray⟩ := rfl
  simp only [execOp, resolve, invoke, builtin, Sem.run_bind, Sem.run_pure, Result.andThen_ok, List.map_toArray, List.map_cons, List.map_nil, g1, g2] at h1 ⊢
  rw [gc] at h1
  rw [he]
  exact h1
/-! ### What is bytes -/
def IsB (a : AV) (l : List UInt8) : Prop := (a = .nils ∧ l = []) ∨ ∃ own, a = .sl own (l.map bvA) l.length
theorem IsB.mk_ (own : AOwn) (l : List UInt8) : IsB (.sl own (l.map bvA) l.length) l := .inr ⟨own, rfl⟩
theorem IsB.mk' (own : AOwn) (l : List UInt8) {n : Nat} (h : l.length = n) : IsB (.sl own (l.map bvA) n) l := by subst h; exact .inr ⟨own, rfl⟩
theorem IsB.of {own : AOwn} {cells : List AV} {l : List UInt8} {n : Nat} (h1 : cells = l.map bvA) (h2 : l.length = n) : IsB (.sl own cells n) l := by subst h1 h2; exact .inr ⟨own, rfl⟩
theorem IsB.one (own : AOwn) (x : UInt8) : IsB (.sl own [bvA x] 1) [x] := .inr ⟨own, rfl⟩
theorem IsB.app (own : AOwn) (l1 l2 : List UInt8) {n : Nat} (h : l1.length + l2.length = n) : IsB (.sl own (l1.map bvA ++ l2.map bvA) n) (l1 ++ l2) := by subst h; exact .inr ⟨own, by simp⟩
theorem IsB.app1 (own : AOwn) (l1 : List UInt8) (x : UInt8) {n : Nat} (h : l1.length + 1 = n) : IsB (.sl own (l1.map bvA ++ [bvA x]) n) (l1 ++ [x]) := by subst h; exact .inr ⟨own, by simp⟩
theorem IsB.app3 (own : AOwn) (l1 l2 l3 : List UInt8) {n : Nat} (h : l1.length + l2.length + l3.length = n) : IsB (.sl own ((l1.map bvA ++ l2.map bvA) ++ l3.map bvA) n) (l1 ++ l2 ++ l3) := by subst h; exact .inr ⟨own, by simp; omega⟩
theorem IsB.nils : IsB .nils [] := .inl ⟨rfl, rfl⟩
theorem IsB.rd {a : AV} {l : List UInt8} {v : Value} (h : IsB a l) (hr : Reps M w a v) : ∃ A c, v = .slice A l.length c ∧ Rd w 1 A l.length c (bvs l) := by
  rcases h with ⟨rfl, rfl⟩ | ⟨own, rfl⟩
  · unfold Reps at hr
    exact ⟨none, 0, hr, by simp [bvs], Nat.le_refl _, by simp, fun _ => rfl, .inl rfl⟩
  · exact hr.rd rfl
def IsBs (cs : List AV) (ls : List (List UInt8)) : Prop := cs.length = ls.length ∧ ∀ (j : Nat) (a : AV) (l : List UInt8), cs[j]? = some a → ls[j]? = some l → IsB a l
theorem IsBs.nil : IsBs [] [] := ⟨rfl, fun _ _ _ h => by simp at h⟩
theorem IsBs.cons {a : AV} {l : List UInt8} {cs : List AV} {ls : List (List UInt8)} (h : IsB a l) (k : IsBs cs ls) : IsBs (a :: cs) (l :: ls) :=
  ⟨by simp [k.1], fun j => match j with
    | 0 => fun a' l' h1 h2 => by simp at h1 h2; subst h1 h2; exact h
    | j + 1 => fun a' l' h1 h2 => k.2 j a' l' (by simpa using h1) (by simpa using h2)⟩
theorem SrcOk_isB {by_ : Nat} {tx e : TypeId} {a : AV} {l : List UInt8} (T : TySl P tx e 1 by_) (h : IsB a l) : SrcOk P 1 tx a (l.map bvA) l.length := by
  rcases h with ⟨rfl, rfl⟩ | ⟨own, rfl⟩
  · exact SrcOk_nils T
  · exact SrcOk_bytes T rfl
theorem S_len_isB {ops : Array Oper} {r : List Oper} {t : TypeId} {a : AV} {l : List UInt8} (hx : aev sl x = a) (hb : IsB a l) {e : TypeId} {sz by_ : Nat} [T : TySl P t e sz by_] (hs : aput sl dst (.int .i64 l.length) = sl') (h : AOPS P ops r sl' σ Q) : AOPS P ops (⟨dst, .call { callee := .builtin .len, args := #[x], argTypes := #[t] }, ty, pos, after, none⟩ :: r) sl σ Q := by
  rcases hb with ⟨rfl, rfl⟩ | ⟨own, rfl⟩
  · exact AOPS_len_nils hx hs h
  · exact AOPS_len_sl hx hs h
theorem IsB.fgn {a : AV} {l : List UInt8} (h : IsB a l) : ∃ b, a.fg = b ∧ IsB b l ∧ b.shut = true ∧ b.one = true := by
  rcases h with ⟨rfl, rfl⟩ | ⟨own, rfl⟩
  · exact ⟨.nils, by simp [AV.fg], .nils, by simp [AV.shut], rfl⟩
  · refine ⟨_, rfl, ?_⟩
    cases own <;> unfold AV.fg <;> (try dsimp only) <;> rw [fgL_bvA] <;> refine ⟨.mk_ _ _, ?_, rfl⟩ <;> unfold AV.shut <;> first | exact shutL_bvA l | (dsimp only; rw [shutL_bvA]) | (dsimp only; rw [shutL_bvA]; rfl)
theorem IsB.one_ {a : AV} {l : List UInt8} (h : IsB a l) : a.one = true := by rcases h with ⟨rfl, rfl⟩ | ⟨own, rfl⟩ <;> rfl
theorem S_string_isB {ops : Array Oper} {r : List Oper} {src t e : TypeId} {by_ : Nat} {a : AV} {l : List UInt8} (hx : aev sl x = a) (hb : IsB a l) [T : TySl P src e 1 by_] [B : TyInt P e .u8] [S : TyStr P t] (hs : aput sl dst (.str l) = sl') (h : AOPS P ops r sl' σ Q) : AOPS P ops (⟨dst, .convert src t x, ty, pos, after, none⟩ :: r) sl σ Q := by
  rcases hb with ⟨rfl, rfl⟩ | ⟨own, rfl⟩
  · exact AOPS_string_nils hx hs h
  · exact AOPS_string hx rfl rfl hs h
theorem S_indexAddr_isB {ops : Array Oper} {r : List Oper} {t e : TypeId} {by_ : Nat} {a : AV} {l : List UInt8} {j : Nat} {k : IntKind} {i : Int} (hx : aev sl x = a) (hb : IsB a l) (hy : aev sl y = .int k i) [T : TySl P t e 1 by_] (hj : i = (j : Int)) (hi : j < l.length) (hs : aput sl dst (.epr (l.map bvA) j) = sl') (h : AOPS P ops r sl' σ Q) : AOPS P ops (⟨dst, .indexAddr t x y, ty, pos, after, none⟩ :: r) sl σ Q := by
  rcases hb with ⟨rfl, rfl⟩ | ⟨own, rfl⟩
  · simp at hi
  · exact S_indexAddr hx hy hj hi (by simp) hs h
/-- What a call says of weaker arguments. -/
theorem ACalls.fg {f : FuncId} {args : List AV} {K : AV → ASt → Prop} (h : ACalls P f (AV.fgL args) σ K) : ACalls P f args σ K := fun base Fi M w vs S hr => h base Fi M w vs S (RepsL.fg args vs hr)
theorem AVal.fg {f : FuncId} {args : List AV} {R : AV} (h : AVal P f (AV.fgL args) R) : AVal P f args R := fun σ => (h σ).fg
theorem ATok.fg {f : FuncId} {args : List AV} {top sz n : Nat} {cells : List AV} (h : ATok P f (AV.fgL args) top sz cells n) : ATok P f args top sz cells n := fun σ => (h σ).fg
/-- A contract that ends in bytes. -/
theorem AVal.of_seg {f : FuncId} {args : List AV} {l : List UInt8} {n : Nat} (h : ∀ M w vs, RepsL M w args vs → Calls P f vs.toArray w fun e w' => ∃ A c, e = .returned (.slice A n c) ∧ Seg w' w.heap.size 1 A n c (bvs l) ∧ Below w.heap.size w w') : AVal P f args (.sl .none (l.map bvA) n) := by
  intro σ base Fi M w vs S hr
  refine (h M w vs hr).mono ?_
  rintro e w' ⟨A, c, rfl, hs, hb⟩
  have hG := Below.grew hb
  exact ⟨_, σ, M, _, ⟨rfl, rfl⟩, rfl, Seg.retN S hb hs, hG.st S, hG.stp S⟩
/-- A contract that ends in a number, a bool, a text. -/
theorem AVal.of_below {f : FuncId} {args : List AV} {R : AV} (h : ∀ M w vs, RepsL M w args vs → Calls P f vs.toArray w fun e w' => ∃ v, e = .returned v ∧ (∀ M w, Reps M w R v) ∧ Below w.heap.size w w') : AVal P f args R := by
  intro σ base Fi M w vs S hr
  refine (h M w vs hr).mono ?_
  rintro e w' ⟨v, rfl, hv, hb⟩
  have hG := Below.grew hb
  exact ⟨R, σ, M, v, ⟨rfl, rfl⟩, rfl, hv _ _, hG.st S, hG.stp S⟩
/-- A row of one value. -/
theorem RepsL.inv1 {a : AV} {vs : List Value} (h : RepsL M w [a] vs) : ∃ v, vs = [v] ∧ Reps M w a v := by
  unfold RepsL at h
  obtain ⟨v, vr, rfl, h1, h2⟩ := h
  unfold RepsL at h2
  subst h2
  exact ⟨v, rfl, h1⟩
theorem RepsL.inv2 {a b : AV} {vs : List Value} (h : RepsL M w [a, b] vs) : ∃ u v, vs = [u, v] ∧ Reps M w a u ∧ Reps M w b v := by
  unfold RepsL at h
  obtain ⟨u, vr, rfl, h1, h2⟩ := h
  obtain ⟨v, rfl, h3⟩ := h2.inv1
  exact ⟨u, v, rfl, h1, h3⟩
theorem IsBs.fg : ∀ {cs : List AV} {ls : List (List UInt8)}, IsBs cs ls → IsBs (AV.fgL cs) ls ∧ AV.shutL (AV.fgL cs) = true
  | [], ls, h => ⟨h, by simp [AV.fgL, AV.shutL]⟩
  | a :: cs, [], h => by have := h.1; simp at this
  | a :: cs, l :: ls, h => by
    have h1 : IsB a l := h.2 0 a l rfl rfl
    have h2 : IsBs cs ls := ⟨by have := h.1; simpa using this, fun j a' l' e1 e2 => h.2 (j + 1) a' l' (by simpa using e1) (by simpa using e2)⟩
    obtain ⟨b, e, k1, k2, _⟩ := h1.fgn
    obtain ⟨k3, k4⟩ := h2.fg
    exact ⟨by unfold AV.fgL; rw [e]; exact .cons k1 k3, by unfold AV.fgL AV.shutL; rw [e, k2, k4]; rfl⟩
theorem ATok.val {f : FuncId} {args : List AV} {l : List UInt8} {top n : Nat} (h : ATok P f args top 1 (l.map bvA) n) (hA : AV.shutL args = true) : AVal P f args (.sl .none (l.map bvA) n) := by
  refine AVal.mk hA (by unfold AV.shut; exact shutL_bvA l) ((h ⟨[], [], 0⟩).mono ?_)
  rintro rv σ' ⟨rfl, _⟩
  unfold AV.fg
  rw [fgL_bvA]
end Go.Proofs.Ytnjkklkjlloedaa
