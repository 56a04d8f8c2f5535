/- The abstract machine: slice and struct literals, bytes of a text, make, freezing a row. -/
import Derived.Test.YtnjkklkjlloedaaAm7
import Derived.Lib.SlBytesConst
import Derived.Laws.IdiomStrings
namespace Go.Proofs.Ytnjkklkjlloedaa
open Go.RowKit
set_option linter.unusedVariables false
set_option linter.unusedSimpArgs false

variable {base : Nat} {Fi : Int → Prop} {M M' M'' : MM} {w w' w'' : World}
variable {P : Program} {ops : Array Oper} {r : List Oper} {sl sl' : List AV} {σ σ' : ASt} {Q : Exit → List AV → ASt → Prop}
variable {d : Tmp} {dst : Option Tmp} {ty : TypeId} {pos : String} {after : Array Edge} {x y z : Operand} {gd : Option (Nat × Bool)} {op : Op}

/-! ### Filling -/
def afill (place : Nat → Option (Nat × Nat)) : List AV → List (Nat × AV) → Option (List AV)
  | cells, [] => some cells
  | cells, (i, v) :: rest =>
    match place i with
    | none => none
    | some (off, size) => if v.flat = true ∧ v.cells.length = size ∧ off + v.cells.length ≤ cells.length then afill place (acut cells off v.cells) rest else none
theorem foldl_set (off : Nat) : ∀ (l : List Value) (k : Nat) (cur : Array Value), off + k + l.length ≤ cur.size → (l.zipIdx k).foldl (fun cs (p : Value × Nat) => cs.setIfInBounds (off + p.2) p.1) cur = (cur.toList.take (off + k) ++ l ++ cur.toList.drop (off + k + l.length)).toArray
  | [], k, cur, _ => by simp
  | v :: l, k, cur, h => by
    simp only [List.length_cons] at h
    simp only [List.zipIdx_cons, List.foldl_cons]
    rw [foldl_set off l (k + 1) _ (by simp; omega)]
    have e := list_seg_step cur.toList (off + k) v l (by simp; omega)
    simp only [Array.toList_setIfInBounds]
    rw [show off + (k + 1) = off + k + 1 by omega, e]
    simp
inductive PartsR (M : MM) (w : World) : List (Nat × AV) → List (Nat × Value) → Prop
  | nil : PartsR M w [] []
  | cons {i : Nat} {a : AV} {v : Value} {as_ : List (Nat × AV)} {vs : List (Nat × Value)} : Reps M w a v → PartsR M w as_ vs → PartsR M w ((i, a) :: as_) ((i, v) :: vs)
theorem afill_ok {place : Nat → Option (Nat × Nat)} : ∀ {ps : List (Nat × AV)} {pv : List (Nat × Value)} {cells cells' : List AV} {vs : Array Value}, RepsL M w cells vs.toList → PartsR M w ps pv → afill place cells ps = some cells' → ∃ vs' : Array Value, Instr.fill place vs pv = some vs' ∧ RepsL M w cells' vs'.toList
  | [], pv, cells, cells', vs, h, hp, hf => by
    cases hp
    simp only [afill, Option.some.injEq] at hf
    subst hf
    exact ⟨vs, rfl, h⟩
  | (i, a) :: ps, pv, cells, cells', vs, h, hp, hf => by
    cases hp with
    | cons ha hp =>
      rename_i v pv
      simp only [afill] at hf
      cases hpl : place i with
      | none => rw [hpl] at hf; cases hf
      | some q =>
        obtain ⟨off, size⟩ := q
        rw [hpl] at hf
        simp only at hf
        split at hf
        · rename_i hc
          obtain ⟨h1, h2, h3⟩ := hc
          have h4 := ha.flat h1
          have h5 := h4.length
          have h6 := h.length
          have h7 : v.cells.size = a.cells.length := by rw [← h5]; simp
          simp only [Array.length_toList] at h6
          have hfold := foldl_set off v.cells.toList 0 vs (by rw [Nat.add_zero, h5]; omega)
          have key : RepsL M w (acut cells off a.cells) (vs.toList.take (off + 0) ++ v.cells.toList ++ vs.toList.drop (off + 0 + v.cells.toList.length)) := by
            rw [Nat.add_zero, h5]
            exact ((h.take off).append h4).append (h.drop (off + a.cells.length))
          obtain ⟨vs', h8, h9⟩ := afill_ok (vs := (vs.toList.take (off + 0) ++ v.cells.toList ++ vs.toList.drop (off + 0 + v.cells.toList.length)).toArray) key hp hf
          refine ⟨vs', ?_, h9⟩
          unfold Instr.fill
          rw [hpl]
          simp only
          rw [if_neg (by simp; omega)]
          rw [← hfold] at h8
          rw [← h8]
          congr 1
          rw [← Array.foldl_toList]
          simp [Array.toList_zipIdx]
        · cases hf
def aparts (sl : List AV) (ps : List (Nat × Operand)) : List (Nat × AV) := ps.map fun p => (p.1, aev sl p.2)
theorem aparts_ok {a : Act} (hr : RepsL M w sl a.tmps.toList) : ∀ (ps : List (Nat × Operand)), PartsR M w (aparts sl ps) (ps.map fun p => (p.1, a.eval p.2))
  | [] => .nil
  | p :: ps => .cons (aev_reps hr p.2) (aparts_ok hr ps)

/-! ### Struct literals -/
class TyPlaces (P : Program) (t : TypeId) (pl : outParam (List (Nat × Nat))) : Prop where
  pl : ∃ fs, P.underlying t = some (.struct fs) ∧ ∀ w : World, (fs.mapM fun (f : Field) => (do pure (f.offset, ← sizeOf f.type) : Sem (Nat × Nat))).run P w = .ok pl.toArray w
theorem AOPS_build {t : TypeId} {agg : Bool} {zs : List Value} {pl : List (Nat × Nat)} {ps : List (Nat × Operand)} {aps : List (Nat × AV)} {cells : List AV} [T : TyPlaces P t pl] [Z : TyZero P t agg zs] (hp : aparts sl ps = aps) (hf : afill (fun i => pl[i]?) (zs.map cav) aps = some cells) (hs : aput sl dst (.agg cells) = sl') (h : AOPS P ops r sl' σ Q) : AOPS P ops (⟨dst, .build t ps.toArray, ty, pos, after, none⟩ :: r) sl σ Q :=
  AOPS_pure (av := .agg cells) rfl (fun M a w hr => by
    subst hp
    obtain ⟨fs, h1, h2⟩ := T.pl
    obtain ⟨i, z, k1, k2, hzs, _⟩ := Z.zero
    have hz : ∀ w : World, (zeroValue t).run P w = .ok z w := fun w => by simp [zeroValue, typeInfo, k1, k2]
    obtain ⟨vs', h3, h4⟩ := afill_ok (vs := z.cells) (by rw [hzs]; exact cavs_reps zs) (aparts_ok hr ps) hf
    refine ⟨.agg vs', fun w' L => ?_, by unfold Reps; exact ⟨_, rfl, h4⟩⟩
    have h5 := h2 w'
    have h3' : Instr.fill (fun x => pl.toArray[x]?) z.cells (ps.map fun p => (p.1, a.eval p.2)) = some vs' := by simpa using h3
    simp only [execOp, Instr.build, Sem.run_bind, hz, Result.andThen_ok, run_underlying h1, h5, List.map_toArray]
    rw [h3']
    rfl) hs h

/-! ### A row that was just made, and that nobody writes to -/
theorem Reps.newRow (S : St base Fi M w σ) {w1 : World} (hG : Grew w w1) {cells : List AV} {vs : List Value} {cs : Array Value} {e : TypeId} {fr : Nat × Nat} {n c : Nat} (hnew : w1.heap[w.heap.size]? = some (.cells cs e fr)) (hpre : ∀ (j : Nat) (u : Value), vs[j]? = some u → cs[j]? = some u) (h : RepsL M w cells vs) (hn : n ≤ c) (hc : c ≤ maxLen) (h0 : n = 0 → cells = []) {own : AOwn} (ho : OwnOk M own (some ⟨w.heap.size, 0, none⟩) n c cells.length) : Reps M w1 (.sl own cells n) (.slice (some ⟨w.heap.size, 0, none⟩) n c) := by
  have T := hG.stp S
  unfold Reps
  refine ⟨_, c, vs, rfl, hn, hc, (fun h => by cases h), .inr ⟨w.heap.size, 0, rfl, fun j u hu => ?_⟩, RepsL.stp T _ _ h, h0, ho.stp T⟩
  rw [Nat.zero_add]
  refine ⟨?_, stab_new S (Nat.le_refl _) j⟩
  simp only [World.cell?, hnew, Option.isSome_none, Bool.false_eq_true, if_false]
  exact hpre j u hu
def azeros (zs : List Value) (n : Nat) : List AV := (List.range n).map fun j => cav (zs.getD (j % zs.length) undef)
theorem azeros_ok {z : Array Value} {zs : List Value} (hz : z.toList = zs) (hp : 0 < zs.length) (n : Nat) : RepsL M w (azeros zs n) (madeCells z n).toList := by
  refine RepsL.of_get (by simp [azeros, madeCells]) fun j a v ha hv => ?_
  simp only [azeros, List.getElem?_map] at ha
  simp only [madeCells, Array.toList_map, Array.toList_range, List.getElem?_map] at hv
  by_cases hj : j < n
  · rw [List.getElem?_range hj] at ha hv
    simp only [Option.map_some, Option.some.injEq] at ha hv
    subst ha hv
    have hzl : z.size = zs.length := by rw [← hz]; simp
    have hlt : j % z.size < z.size := Nat.mod_lt _ (by omega)
    have e : z[j % z.size]! = zs.getD (j % zs.length) undef := by
      subst hz
      rw [List.getD_eq_getElem?_getD, ← hzl, Array.getElem?_toList, Array.getElem?_eq_getElem hlt, getElem!_pos z _ hlt]; rfl
    rw [e]
    exact cav_reps _
  · rw [List.getElem?_eq_none (by simpa using hj)] at ha; cases ha
theorem buildSlice_ok {t e : TypeId} {sz by_ : Nat} {agg : Bool} {zs : List Value} [T : TySl P t e sz by_] [Z : TyZero P e agg zs] {len : Nat} {ps : List (Nat × AV)} {pv : List (Nat × Value)} {cells : List AV} (hp : PartsR M w ps pv) (hlen : len * sz ≤ 16777216) (hf : afill (fun i => some (i * sz, sz)) (azeros zs (len * sz)) ps = some cells) (hzl : zs.length = sz) :
    ∃ vs : Array Value, (Instr.buildSlice t len pv.toArray).run P w = .ok (.slice (some ⟨w.heap.size, 0, none⟩) len len) (w.alloc (.cells vs e)) ∧ RepsL M w cells vs.toList := by
  obtain ⟨z, hz, hzs⟩ := Z.run w
  have hpos := T.pos
  obtain ⟨vs, h1, h2⟩ := afill_ok (vs := madeCells z.cells (len * sz)) (azeros_ok hzs (by omega) _) hp hf
  refine ⟨vs, ?_, h2⟩
  have hsz := T.sizeOf w
  have hn : ¬ (len * sz > 16777216) := by omega
  have hn2 : ¬ (2 ^ 24 < len * sz) := by simpa using hn
  unfold Instr.buildSlice
  simp only [Sem.run_bind, run_underlying T.und, Result.andThen_ok, hsz]
  rw [if_neg (by simpa using hn)]
  by_cases h0 : len * sz = 0
  · rw [h0] at h1
    have e1 : madeCells z.cells 0 = #[] := by simp [madeCells, Array.range_zero']
    rw [e1] at h1
    simp [h0, Array.range_zero', h1, newRow]
  · have e1 : (Array.range (len * sz)).map (fun x => z.cells[x % z.cells.size]!) = madeCells z.cells (len * sz) := rfl
    simp only [if_neg h0, Sem.run_bind, Sem.run_pure, hz, Result.andThen_ok, e1, h1]
    simp [newRow]
theorem AOPS_buildSlice {t e : TypeId} {sz by_ : Nat} {agg : Bool} {zs : List Value} [T : TySl P t e sz by_] [Z : TyZero P e agg zs] {len : Nat} {ps : List (Nat × Operand)} {aps : List (Nat × AV)} {cells : List AV} (hp : aparts sl ps = aps) (hf : afill (fun i => some (i * sz, sz)) (azeros zs (len * sz)) aps = some cells) (hzl : zs.length = sz) (hlen : len * sz ≤ 16777216 ∧ (len = 0 → cells = [])) (hs : aput sl dst (.sl .full cells len) = sl') (h : AOPS P ops r sl' σ Q) : AOPS P ops (⟨dst, .buildSlice t len ps.toArray, ty, pos, after, none⟩ :: r) sl σ Q :=
  AOPS_eff (av := .sl .full cells len) rfl (fun base Fi M a w hr => by
    subst hp
    obtain ⟨vs, h1, h2⟩ := buildSlice_ok (T := T) (Z := Z) (aparts_ok hr.2.1 ps) hlen.1 hf hzl
    have hG := Grew.alloc w (.cells vs e)
    have hpos := T.pos
    have hlm : len ≤ maxLen := by
      have : len * 1 ≤ len * sz := Nat.mul_le_mul_left _ hpos
      simp only [maxLen]; omega
    refine ⟨_, _, M, .inl ?_, Reps.newRow hr.2.2 hG (heap_alloc_new w _) (fun j u hu => by simpa using hu) h2 (Nat.le_refl len) hlm hlen.2 (by unfold OwnOk; rfl), hG.st hr.2.2, hG.stp hr.2.2⟩
    simp only [execOp, List.map_toArray, Sem.run_bind]
    rw [show (List.map (fun x => (x.1, a.eval x.2)) ps).toArray = (ps.map fun p => (p.1, a.eval p.2)).toArray from rfl, h1]
    rfl) hs h

/-! ### Bytes of a text -/
theorem Grew.drew_alloc_fr (w : World) (o : Obj) : Grew w (w.drew.alloc o) := Grew.drew_alloc w o
theorem AOPS_bytes {src t e : TypeId} {sz by_ : Nat} {s : List UInt8} (hx : aev sl x = .str s) [S0 : TyStr P src] [T : TySl P t e sz by_] [B : TyInt P e .u8] (hs : aput sl dst (.sl .none (s.map bvA) s.length) = sl') (h : AOPS P ops r sl' σ Q) : AOPS P ops (⟨dst, .convert src t x, ty, pos, after, none⟩ :: r) sl σ Q :=
  AOPS_eff (av := .sl .none (s.map bvA) s.length) rfl (fun base Fi M a w hr => by
    have h1 := ev1 hr.2.1 hx
    unfold Reps at h1
    obtain ⟨h1, h2⟩ := h1
    have h3 := run_bytes_of_string (P := P) w src t e ⟨s.toArray⟩ S0.und T.und B.und
    rw [ba_size] at h3
    have hge := grownCap_ge w s.length 0 e
    have hcm : grownCap w s.length 0 e ≤ maxLen := grownCap_le_maxLen w s.length 0 e h2
    have hG := Grew.drew_alloc w (.cells (bytesRow ⟨s.toArray⟩ (grownCap w s.length 0 e)) e ((bytesRow ⟨s.toArray⟩ (grownCap w s.length 0 e)).size, (bytesRow ⟨s.toArray⟩ (grownCap w s.length 0 e)).size + 1))
    refine ⟨_, _, M, .inl ?_, Reps.newRow hr.2.2 hG (heap_alloc_new w.drew _) (fun j u hu => ?_) (bvA_reps s) hge hcm (fun h0 => by simp [List.eq_nil_of_length_eq_zero h0]) trivial, hG.st hr.2.2, hG.stp hr.2.2⟩
    · simp only [execOp, h1, Sem.run_bind, h3, Result.andThen_ok, Sem.run_pure]
    · have hj := (List.getElem?_eq_some_iff.1 hu).1
      rw [bvs_length] at hj
      rw [bvs_get s j hj] at hu
      cases hu
      simp only [bytesRow]
      rw [Array.getElem?_append_left (by simpa using hj)]
      simp [hj, bv]) hs h

/-! ### make -/
theorem AOPS_make {t e : TypeId} {sz by_ : Nat} {agg : Bool} {zs : List Value} [T : TySl P t e sz by_] [Z : TyZero P e agg zs] {n : Nat} {k k' : IntKind} {i j : Int} (hx : aev sl x = .int k i) (hy : aev sl y = .int k' j) (hi : i = (n : Int)) (hj : j = (n : Int)) (hb : by_ * n ≤ 281474976710656 ∧ n ≤ 1000000000) (hzl : zs.length = sz) (hs : aput sl dst (.row σ.next 0 n) = sl') (h : AOPS P ops r sl' ⟨(σ.next, azeros zs (n * sz)) :: σ.objs, σ.toks, σ.next + 1⟩ Q) : AOPS P ops (⟨dst, .makeSlice t x y, ty, pos, after, none⟩ :: r) sl σ Q :=
  AOPS_eff (av := .row σ.next 0 n) rfl (fun base Fi M a w hr => by
    have h1 := ev1 hr.2.1 hx
    have h2 := ev1 hr.2.1 hy
    unfold Reps at h1 h2
    subst hi hj
    obtain ⟨i, z, hi, hz, hsz, hby, hzs⟩ := T.info
    obtain ⟨z', hz', hzs'⟩ := Z.run w
    have e1 : z' = z := by
      have : (zeroValue e).run P w = .ok z w := by simp [zeroValue, typeInfo, hi, hz]
      rw [this] at hz'; cases hz'; rfl
    subst e1
    have hpos := T.pos
    have h3 := run_make (P := P) w t e i z' T.und hi hz k k' n n (by omega) (by omega) (by rw [hby]; omega) (by omega)
    simp only [Int.toNat_natCast, hsz] at h3
    refine ⟨.slice (some ⟨w.heap.size, 0, none⟩) n n, w.alloc (.cells (madeCells z'.cells (n * sz)) e), M.obj σ.next w.heap.size, .inl ?_, ?_, St.newObj hr.2.2 (azeros_ok (z := z'.cells) hzs' (by omega) (n * sz)) e, Stp.newObj hr.2.2 _⟩
    · simp only [execOp, h1, h2, Sem.run_bind, h3, Result.andThen_ok, Sem.run_pure]
    · unfold Reps
      exact ⟨w.heap.size, by simp [MM.obj], rfl, by simp only [maxLen]; omega⟩) hs h
end Go.Proofs.Ytnjkklkjlloedaa
