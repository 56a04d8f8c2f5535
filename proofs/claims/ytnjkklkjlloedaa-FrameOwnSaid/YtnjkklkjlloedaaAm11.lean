/- The abstract machine: how what is known of types is made; rules that write out what they reckon. -/
import Derived.Test.YtnjkklkjlloedaaAm10
import Derived.Laws.StructEq
namespace Go.Proofs.Ytnjkklkjlloedaa
open Go.RowKit
set_option linter.unusedVariables false
set_option linter.unusedSimpArgs false
section
variable {P : Program} {t e : TypeId}
theorem TyZero.mk' {agg : Bool} {zs : List Value} {z : Value} (h : (P.info? t).map (·.zero) = some (some z)) (hz : z.cells.toList = zs) (ha : (match z with | .agg _ => true | _ => false) = agg) : TyZero P t agg zs := by
  cases hi : P.info? t with
  | none => rw [hi] at h; cases h
  | some i =>
    rw [hi] at h
    simp only [Option.map_some, Option.some.injEq] at h
    refine ⟨i, z, hi, h, hz, ?_⟩
    subst ha
    cases z <;> rfl
theorem TyFldS.mk' {f off sz : Nat} {agg : Bool} {ft : TypeId} (h : P.underlying t = some (.struct (P.fieldsOf t))) (h2 : ((P.fieldsOf t)[f]?).map (fun x => (x.offset, x.type)) = some (off, ft)) (hv : TyVar P ft agg sz) (hp : 0 < sz) : TyFldS P t f off agg sz := ⟨⟨ft, TyFld.mk' h h2, hv⟩, hp⟩
theorem TyPlaces.mk' {pl : List (Nat × Nat)} (h : P.underlying t = some (.struct (P.fieldsOf t))) (h2 : ∀ w : World, ((P.fieldsOf t).mapM fun (f : Field) => (do pure (f.offset, ← sizeOf f.type) : Sem (Nat × Nat))).run P w = .ok pl.toArray w) : TyPlaces P t pl := ⟨_, h, h2⟩
end
variable {base : Nat} {Fi : Int → Prop} {M M' M'' : MM} {w w' w'' : World}
variable {P : Program} {ops : Array Oper} {r : List Oper} {sl sl' : List AV} {σ σ' : ASt} {Q : Exit → List AV → ASt → Prop}
variable {d : Tmp} {dst : Option Tmp} {ty : TypeId} {pos : String} {after : Array Edge} {x y z : Operand} {gd : Option (Nat × Bool)} {op : Op}

/-! ### Reckoned by looking: each list is written out -/
/-- Cells, some of them written. -/
def cutF : List AV → Nat → List AV → Option (List AV)
  | cs, 0, [] => some cs
  | _ :: cs, 0, v :: vs => match cutF cs 0 vs with | some r => some (v :: r) | none => none
  | c :: cs, k + 1, vs => match cutF cs k vs with | some r => some (c :: r) | none => none
  | [], _, _ => none
theorem cutF_ok : ∀ {cs : List AV} {k : Nat} {vs r : List AV}, cutF cs k vs = some r → acut cs k vs = r ∧ k + vs.length ≤ cs.length
  | cs, 0, [], r, h => by simp [cutF] at h; subst h; simp [acut]
  | _ :: cs, 0, v :: vs, r, h => by
    simp only [cutF] at h
    split at h
    · rename_i q hq
      cases h
      obtain ⟨h1, h2⟩ := cutF_ok hq
      simp only [acut, List.take_zero, List.nil_append, Nat.zero_add, List.length_cons, List.cons_append, List.drop_succ_cons] at h1 ⊢
      exact ⟨by rw [h1], by omega⟩
    · cases h
  | c :: cs, k + 1, vs, r, h => by
    simp only [cutF] at h
    split at h
    · rename_i q hq
      cases h
      obtain ⟨h1, h2⟩ := cutF_ok hq
      simp only [acut] at h1 ⊢
      refine ⟨?_, by simp; omega⟩
      rw [← h1, show k + 1 + vs.length = (k + vs.length) + 1 by omega]
      simp
    · cases h
  | [], 0, v :: vs, r, h => by simp [cutF] at h
  | [], k + 1, vs, r, h => by simp [cutF] at h
/-- The first so many. -/
def takeF : Nat → List AV → Option (List AV)
  | 0, _ => some []
  | n + 1, c :: cs => match takeF n cs with | some r => some (c :: r) | none => none
  | _ + 1, [] => none
theorem takeF_ok : ∀ {n : Nat} {cs r : List AV}, takeF n cs = some r → cs.take n = r ∧ n ≤ cs.length
  | 0, cs, r, h => by simp [takeF] at h; subst h; simp
  | n + 1, c :: cs, r, h => by
    simp only [takeF] at h
    split at h
    · rename_i q hq
      cases h
      obtain ⟨h1, h2⟩ := takeF_ok hq
      simp [h1]; omega
    · cases h
  | n + 1, [], r, h => by simp [takeF] at h
def dropF : Nat → List AV → Option (List AV)
  | 0, cs => some cs
  | n + 1, _ :: cs => dropF n cs
  | _ + 1, [] => none
theorem dropF_ok : ∀ {n : Nat} {cs r : List AV}, dropF n cs = some r → cs.drop n = r ∧ n ≤ cs.length
  | 0, cs, r, h => by simp [dropF] at h; subst h; simp
  | n + 1, _ :: cs, r, h => by
    simp only [dropF] at h
    obtain ⟨h1, h2⟩ := dropF_ok h
    simp [h1]; omega
  | n + 1, [], r, h => by simp [dropF] at h
def subF (off sz : Nat) (cs : List AV) : Option (List AV) := match dropF off cs with | some r => takeF sz r | none => none
theorem subF_ok {off sz : Nat} {cs r : List AV} (h : subF off sz cs = some r) : (cs.drop off).take sz = r ∧ off + sz ≤ cs.length := by
  unfold subF at h
  split at h
  · rename_i q hq
    obtain ⟨h1, h2⟩ := dropF_ok hq
    obtain ⟨h3, h4⟩ := takeF_ok h
    rw [h1]
    refine ⟨h3, ?_⟩
    rw [← h1, List.length_drop] at h4; omega
  · cases h
def fillF (sl : List AV) (place : Nat → Option (Nat × Nat)) : List AV → List (Nat × Operand) → Option (List AV)
  | cells, [] => some cells
  | cells, (i, x) :: rest =>
    match place i with
    | none => none
    | some (off, size) => match aevo sl x with
      | none => none
      | some v => if v.flat = true ∧ v.cells.length = size then (match cutF cells off v.cells with | some c => fillF sl place c rest | none => none) else none
theorem fillF_ok {sl : List AV} {place : Nat → Option (Nat × Nat)} : ∀ {ps : List (Nat × Operand)} {cells r : List AV}, fillF sl place cells ps = some r → afill place cells (aparts sl ps) = some r
  | [], cells, r, h => h
  | (i, x) :: rest, cells, r, h => by
    simp only [fillF] at h
    split at h
    · cases h
    · rename_i off size hp
      split at h
      · cases h
      · rename_i v hv
        split at h
        · rename_i hc
          split at h
          · rename_i c hcut
            obtain ⟨h1, h2⟩ := cutF_ok hcut
            have h3 := fillF_ok h
            simp only [aparts, List.map_cons, afill, hp, aevo_eq hv]
            rw [if_pos ⟨hc.1, hc.2, h2⟩, h1]
            exact h3
          · cases h
        · cases h
def zerosF (zs : List Value) : Nat → List AV
  | 0 => []
  | n + 1 => zs.map cav ++ zerosF zs n
/-- Elements of one cell each, in their order. -/
def litF (sl : List AV) : Nat → List (Nat × Operand) → Option (List AV)
  | _, [] => some []
  | k, (i, x) :: rest => if i = k then (match aevo sl x with
    | some v => match litF sl (k + 1) rest with | some r => some (v :: r) | none => none
    | none => none) else none
theorem litF_fill {sl : List AV} : ∀ {ps : List (Nat × Operand)} {k : Nat} {vs cells : List AV}, litF sl k ps = some vs → vs.all AV.one = true → k + vs.length ≤ cells.length → afill (fun i => some (i * 1, 1)) cells (aparts sl ps) = some (acut cells k vs)
  | [], k, vs, cells, h, _, _ => by simp [litF] at h; subst h; simp [aparts, afill, acut]
  | (i, x) :: rest, k, vs, cells, h, ho, hl => by
    simp only [litF] at h
    split at h
    · rename_i hi
      subst hi
      split at h
      · rename_i v hv
        split at h
        · rename_i q hq
          cases h
          simp only [List.all_cons, Bool.and_eq_true] at ho
          simp only [List.length_cons] at hl
          have h1 : v.cells = [v] := by cases v <;> first | rfl | (simp [AV.one] at ho)
          have h2 : v.flat = true := by cases v <;> first | exact ho.1 | (simp [AV.one] at ho)
          have hlen : (acut cells i [v]).length = cells.length := by simp [acut]; omega
          have h3 := litF_fill (cells := acut cells i [v]) hq ho.2 (by rw [hlen]; omega)
          simp only [aparts, List.map_cons, afill, aevo_eq hv, Nat.mul_one]
          rw [if_pos ⟨h2, by rw [h1]; rfl, by rw [h1]; simp; omega⟩, h1]
          have h3' : afill (fun i => some (i, 1)) (acut cells i [v]) (rest.map fun p => (p.1, aev sl p.2)) = some (acut (acut cells i [v]) (i + 1) q) := by simpa only [Nat.mul_one, aparts] using h3
          rw [h3']
          congr 1
          simp only [acut, List.length_cons, List.length_nil, Nat.zero_add]
          have e1 : (cells.take i ++ [v] ++ cells.drop (i + 1)).take (i + 1) = cells.take i ++ [v] := by
            rw [List.take_append_of_le_length (by simp; omega), List.take_of_length_le (by simp; omega)]
          have e2 : (cells.take i ++ [v] ++ cells.drop (i + 1)).drop (i + 1 + q.length) = cells.drop (i + (q.length + 1)) := by
            rw [List.drop_append, List.drop_eq_nil_of_le (by simp; omega), List.nil_append, List.drop_drop]
            congr 1
            simp; omega
          rw [e1, e2]
          simp
        · cases h
      · cases h
    · cases h
theorem S_lit {t e : TypeId} {by_ : Nat} {agg : Bool} {zs : List Value} [T : TySl P t e 1 by_] [Z : TyZero P e agg zs] {len : Nat} {ps : List (Nat × Operand)} {cells : List AV} (hp : litF sl 0 ps = some cells) (ho : cells.all AV.one = true) (hl : cells.length = len) (hzl : zs.length = 1) (hb : len ≤ 16777216) (hs : aput sl dst (.sl .full cells len) = sl') (h : AOPS P ops r sl' σ Q) : AOPS P ops (⟨dst, .buildSlice t len ps.toArray, ty, pos, after, none⟩ :: r) sl σ Q := by
  refine AOPS_buildSlice (sz := 1) rfl (cells := cells) ?_ hzl ⟨by omega, fun h0 => List.eq_nil_of_length_eq_zero (by omega)⟩ hs h
  have h1 := litF_fill (cells := azeros zs (len * 1)) hp ho (by simp [azeros]; omega)
  rw [h1]
  congr 1
  simp only [acut, List.take_zero, List.nil_append, Nat.zero_add]
  rw [List.drop_eq_nil_of_le (by simp [azeros]; omega), List.append_nil]
theorem S_build {t : TypeId} {agg : Bool} {zs : List Value} {pl : List (Nat × Nat)} {ps : List (Nat × Operand)} {cells zc : List AV} [T : TyPlaces P t pl] [Z : TyZero P t agg zs] (hz : zerosF zs 1 = zc) (hf : fillF sl (fun i => pl[i]?) zc ps = some cells) (hs : aput sl dst (.agg cells) = sl') (h : AOPS P ops r sl' σ Q) : AOPS P ops (⟨dst, .build t ps.toArray, ty, pos, after, none⟩ :: r) sl σ Q := by
  refine AOPS_build rfl (cells := cells) (fillF_ok ?_) hs h
  rw [← hf, ← hz]
  simp [zerosF]
theorem S_load_agg {t : TypeId} {sz off : Nat} {id : Int} {cells cs : List AV} (hx : aev sl x = .ptr id off) [T : TyVar P t true sz] (ho : alook σ.objs id = some cells) (hp : subF off sz cells = some cs) (hs : aput sl dst (.agg cs) = sl') (h : AOPS P ops r sl' σ Q) : AOPS P ops (⟨dst, .load t x, ty, pos, after, none⟩ :: r) sl σ Q := by
  obtain ⟨h1, h2⟩ := subF_ok hp
  exact AOPS_load hx ho (by simp only [aload, if_true]; rw [if_pos h2, h1]) hs h
theorem S_load_epr_sub {t : TypeId} {sz off : Nat} {cells cs : List AV} (hx : aev sl x = .epr cells off) [T : TyVar P t true sz] (hp : subF off sz cells = some cs) (hs : aput sl dst (.agg cs) = sl') (h : AOPS P ops r sl' σ Q) : AOPS P ops (⟨dst, .load t x, ty, pos, after, none⟩ :: r) sl σ Q := by
  obtain ⟨h1, h2⟩ := subF_ok hp
  exact AOPS_load_epr hx (by simp only [aload, if_true]; rw [if_pos h2, h1]) hs h
theorem S_quo {t t' : TypeId} {m n : Int} (hx : aev sl x = .int .i64 m) (hy : aev sl y = .int .i64 n) (hb : 0 ≤ m ∧ m ≤ 9223372036854775807 ∧ 0 < n) (hs : aput sl dst (.int .i64 (m / n)) = sl') (h : AOPS P ops r sl' σ Q) : AOPS P ops (⟨dst, .binOp .quo t x y t', ty, pos, after, none⟩ :: r) sl σ Q :=
  AOPS_bin hx hy (show abin .quo .i64 m n = some (.int .i64 (m / n)) by
    simp only [abin]
    rw [if_neg (by omega), Int.tdiv_eq_ediv_of_nonneg hb.1, show IntKind.i64.wrap (m / n) = m / n by
      rw [IntKind.wrap_i64]
      have h1 : 0 ≤ m / n := Int.ediv_nonneg hb.1 (by omega)
      have h2 : m / n ≤ m := Int.ediv_le_self n hb.1
      omega]) hs h
theorem S_rem {t t' : TypeId} {m n : Int} (hx : aev sl x = .int .i64 m) (hy : aev sl y = .int .i64 n) (hb : 0 ≤ m ∧ 0 < n) (hs : aput sl dst (.int .i64 (m % n)) = sl') (h : AOPS P ops r sl' σ Q) : AOPS P ops (⟨dst, .binOp .rem t x y t', ty, pos, after, none⟩ :: r) sl σ Q :=
  AOPS_bin hx hy (show abin .rem .i64 m n = some (.int .i64 (m % n)) by
    simp only [abin]
    rw [if_neg (by omega), Int.tmod_eq_emod_of_nonneg hb.1]) hs h
theorem S_conv_same {src t : TypeId} {n : Int} (hx : aev sl x = .int .i64 n) [T : TyInt P t .i64] [T0 : TyInt P src .i64] (hb : -9223372036854775808 ≤ n ∧ n ≤ 9223372036854775807) (hs : aput sl dst (.int .i64 n) = sl') (h : AOPS P ops r sl' σ Q) : AOPS P ops (⟨dst, .convert src t x, ty, pos, after, none⟩ :: r) sl σ Q :=
  AOPS_conv hx (by rw [show IntKind.i64.wrap n = n by rw [IntKind.wrap_i64]; omega]; exact hs) h
/-- A byte to a number. -/
theorem S_conv_u8 {src t : TypeId} {b : UInt8} (hx : aev sl x = bvA b) [T : TyInt P t .i64] [T0 : TyInt P src .u8] (hs : aput sl dst (.int .i64 (b.toNat : Int)) = sl') (h : AOPS P ops r sl' σ Q) : AOPS P ops (⟨dst, .convert src t x, ty, pos, after, none⟩ :: r) sl σ Q :=
  AOPS_conv (k := .u8) (n := b.toNat) hx (by rw [show IntKind.i64.wrap (b.toNat : Int) = b.toNat by rw [IntKind.wrap_i64]; have := b.toNat_lt; omega]; exact hs) h
/-- A number's byte. -/
theorem wrap_u8 (z : Int) : IntKind.u8.wrap z = (((UInt8.ofNat (z % 256).toNat).toNat : Nat) : Int) := by
  rw [IntKind.wrap_u8]
  have h1 : 0 ≤ z % 256 := Int.emod_nonneg _ (by decide)
  have h2 : z % 256 < 256 := Int.emod_lt_of_pos _ (by decide)
  simp
  omega
theorem S_conv_byte {src t : TypeId} {n : Int} {k : IntKind} (hx : aev sl x = .int k n) [T : TyInt P t .u8] [T0 : TyInt P src k] (hs : aput sl dst (bvA (UInt8.ofNat (n % 256).toNat)) = sl') (h : AOPS P ops r sl' σ Q) : AOPS P ops (⟨dst, .convert src t x, ty, pos, after, none⟩ :: r) sl σ Q :=
  AOPS_conv hx (by rw [wrap_u8]; exact hs) h
end Go.Proofs.Ytnjkklkjlloedaa
