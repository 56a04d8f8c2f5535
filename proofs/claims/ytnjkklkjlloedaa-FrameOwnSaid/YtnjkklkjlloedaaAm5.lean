/- The abstract machine: objects: new ones, loads, stores. -/
import Derived.Test.YtnjkklkjlloedaaAm4
import Derived.Laws.CopyRow
namespace Go.Proofs.Ytnjkklkjlloedaa
open Go.RowKit
set_option linter.unusedVariables false
set_option linter.unusedSimpArgs false

variable {base : Nat} {Fi : Int → Prop} {M M' M'' : MM} {w w' w'' : World}
variable {P : Program} {ops : Array Oper} {r : List Oper} {sl sl' : List AV} {σ σ' : ASt} {Q : Exit → List AV → ASt → Prop}
variable {d : Tmp} {dst : Option Tmp} {ty : TypeId} {pos : String} {after : Array Edge} {x y z : Operand} {gd : Option (Nat × Bool)} {op : Op}

/-- An operation that may turn memory. -/
def EffOk (P : Program) (o : Oper) (sl : List AV) (σ : ASt) (av : AV) (σ' : ASt) : Prop := ∀ base Fi M a w, Rel base Fi M a w sl σ → ∃ v w' M', ((execOp a.eval o).run P w = .ok (.value v) w' ∨ ((execOp a.eval o).run P w = .ok .skip w' ∧ v = undef)) ∧ Reps M' w' av v ∧ St base Fi M' w' σ' ∧ Stp base Fi M w M' w'
theorem AOPS_eff {o : Oper} {av : AV} (hg : o.guard = none) (ho : EffOk P o sl σ av σ') (hs : aput sl o.dst av = sl') (h : AOPS P ops r sl' σ' Q) : AOPS P ops (o :: r) sl σ Q := by
  intro base Fi M0 w0 M a w hst hr
  refine wpList_plain hg fun K hK => ?_
  obtain ⟨v, w', M', hrun, hv, hS, hT⟩ := ho base Fi M a w hr
  have hgo : K (a.put o.dst v) w' := by
    refine hK _ _ (h base Fi M0 w0 M' _ w' (hst.trans hT) ⟨?_, ?_, hS⟩)
    · cases o.dst <;> exact hr.1
    · rw [← hs]; exact aput_reps (RepsL.stp hT _ _ hr.2.1) o.dst hv
  unfold Oper.wp
  rcases hrun with hrun | ⟨hrun, rfl⟩ <;> rw [hrun] <;> exact hgo

/-! ### A new object -/
def MM.obj (M : MM) (id : Int) (b : Nat) : MM := ⟨fun i => if i = id then some b else M.ob i, M.tk, M.fz⟩
theorem cell_lt {w : World} {b j : Nat} {v : Value} (h : w.cell? ⟨b, j, none⟩ = some v) : b < w.heap.size := World.block_lt_of_cell? w ⟨b, j, none⟩ h
theorem stab_obj (S : St base Fi M w σ) {b j : Nat} (hs : stab M b j) (hb : b < w.heap.size) : stab (M.obj σ.next w.heap.size) b j := by
  refine ⟨fun id => ?_, hs.2⟩
  simp only [MM.obj]
  split
  · intro h; cases h; omega
  · exact hs.1 id
theorem Stp.newObj (S : St base Fi M w σ) (o : Obj) : Stp base Fi M w (M.obj σ.next w.heap.size) (w.alloc o) := by
  refine ⟨rfl, rfl, rfl, by simp, fun k hk => Below.heap_alloc _ _ _ (by have := S.base_le; omega), ?_, fun id T h => ⟨T, h, rfl, .inl rfl⟩, ?_, ?_, fun _ _ h => h, ?_⟩
  · intro id b hb
    simp only [MM.obj]
    rw [if_neg]
    · exact hb
    · rintro rfl; rw [(S.fresh _ (Int.le_refl _)).1] at hb; cases hb
  · intro b j v hs hc
    have hlt := cell_lt hc
    exact ⟨(World.cell?_of_block (w := w) (Below.heap_alloc w o b hlt)).trans hc, stab_obj S hs hlt⟩
  · intro id b _ hb; exact Below.heap_alloc w o b (S.obsz id b hb)
  · intro id T b e ce _ hT hb; exact Below.heap_alloc w o b (S.tksz id T b e ce hT hb)
theorem St.newObj (S : St base Fi M w σ) {cells : List AV} {vs : Array Value} (h : RepsL M w cells vs.toList) (e : TypeId) : St base Fi (M.obj σ.next w.heap.size) (w.alloc (.cells vs e)) ⟨(σ.next, cells) :: σ.objs, σ.toks, σ.next + 1⟩ := by
  have T := Stp.newObj S (.cells vs e)
  have hsz : (w.alloc (.cells vs e)).heap.size = w.heap.size + 1 := by simp
  refine ⟨by have := S.base_le; omega, ?_, ?_, ?_, ?_, S.tinj, ?_, ?_, ?_⟩
  · intro id cs hl
    simp only [alook] at hl
    split at hl
    · rename_i he
      subst he
      cases hl
      refine ⟨(S.fresh _ (Int.le_refl _)).2.2, w.heap.size, vs, e, by simp [MM.obj], S.base_le, heap_alloc_new w _, RepsL.stp T _ _ h⟩
    · rename_i he
      obtain ⟨h1, b, us, e', h2, h3, h4, h5⟩ := S.obs id cs hl
      exact ⟨h1, b, us, e', T.ob _ _ h2, h3, by rw [Below.heap_alloc w _ b (S.obsz id b h2)]; exact h4, RepsL.stp T _ _ h5⟩
  · intro id top hl
    obtain ⟨h1, Tk, h2, h3, h4⟩ := S.tks id top hl
    refine ⟨h1, Tk, h2, h3, fun b e2 ce hb => ?_⟩
    obtain ⟨h5, h6⟩ := h4 b e2 ce hb
    have hlt := S.tksz id Tk b e2 ce h2 hb
    have hB := Below.heap_alloc w (.cells vs e) b hlt
    exact ⟨h5, h6.heap hB⟩
  · intro id id' b h1 h2
    simp only [MM.obj] at h1 h2
    split at h1 <;> split at h2
    · omega
    · rename_i e1 e2; cases h1; have := S.obsz id' _ h2; omega
    · rename_i e1 e2; cases h2; have := S.obsz id _ h1; omega
    · exact S.inj id id' b h1 h2
  · intro id id' b T e ce h1 h2 h3
    simp only [MM.obj] at h1
    split at h1
    · cases h1; have := S.tksz id' T _ e ce h2 h3; omega
    · exact S.dis id id' b T e ce h1 h2 h3
  · intro id b h1
    rw [hsz]
    simp only [MM.obj] at h1
    split at h1
    · cases h1; omega
    · have := S.obsz id b h1; omega
  · intro id T b e ce h1 h2
    rw [hsz]; have := S.tksz id T b e ce h1 h2; omega
  · intro id hid
    have hid' : σ.next + 1 ≤ id := hid
    obtain ⟨h1, h2⟩ := S.fresh id (by omega)
    refine ⟨?_, h2⟩
    simp only [MM.obj]
    rw [if_neg (by omega)]; exact h1
theorem Reps.newPtr (o : Obj) : Reps (M.obj σ.next w.heap.size) (w.alloc o) (.ptr σ.next 0) (.pointer (some ⟨w.heap.size, 0, none⟩)) := by
  unfold Reps
  exact ⟨w.heap.size, by simp [MM.obj], rfl⟩
/-- A value of one cell, or a row of such. -/
def AV.flat : AV → Bool
  | .agg cs => cs.all AV.one
  | a => a.one
theorem Reps.flat {a : AV} {v : Value} (h : Reps M w a v) (ha : a.flat = true) : RepsL M w a.cells v.cells.toList := by
  refine h.cells ?_
  cases a <;> first | exact .inr ⟨_, rfl⟩ | exact .inl ha
theorem RepsL.ones : ∀ {cs : List AV} {vs : List Value}, RepsL M w cs vs → cs.all AV.one = true → ∀ v ∈ vs, v.oneCell' = true
  | [], vs, h, _, v, hv => by unfold RepsL at h; subst h; cases hv
  | a :: cs, vs, h, ha, v, hv => by
    unfold RepsL at h
    obtain ⟨u, ur, rfl, h2, h3⟩ := h
    simp only [List.all_cons, Bool.and_eq_true] at ha
    cases hv with
    | head => exact h2.one ha.1
    | tail _ hv => exact RepsL.ones h3 ha.2 v hv
theorem AV.flat_cells {a : AV} (ha : a.flat = true) : a.cells.all AV.one = true := by
  cases a <;> first | exact ha | (simp only [AV.cells, List.all_cons, List.all_nil, Bool.and_true]; exact ha)
theorem AOPS_box {t : TypeId} {av : AV} (hx : aev sl x = av) (hf : av.flat = true) (hs : aput sl dst (.ptr σ.next 0) = sl') (h : AOPS P ops r sl' ⟨(σ.next, av.cells) :: σ.objs, σ.toks, σ.next + 1⟩ Q) : AOPS P ops (⟨dst, .box t x, ty, pos, after, none⟩ :: r) sl σ Q :=
  AOPS_eff (av := .ptr σ.next 0) rfl (fun base Fi M a w hr => by
    have h1 := (ev1 hr.2.1 hx).flat hf
    refine ⟨.pointer (some ⟨w.heap.size, 0, none⟩), w.alloc (.cells (a.eval x).cells t), _, .inl ?_, Reps.newPtr _, St.newObj hr.2.2 h1 t, Stp.newObj hr.2.2 _⟩
    simp [execOp, Instr.box, newVar, newRow]) hs h
/-- The zero value of a type: its cells. -/
class TyZero (P : Program) (t : TypeId) (agg : outParam Bool) (zs : outParam (List Value)) : Prop where
  zero : ∃ i z, P.info? t = some i ∧ i.zero = some z ∧ z.cells.toList = zs ∧ (match z with | .agg _ => agg = true | _ => agg = false)
theorem cavs_reps : ∀ (zs : List Value), RepsL M w (zs.map cav) zs
  | [] => RepsL.nil
  | v :: zs => RepsL.cons (cav_reps v) (cavs_reps zs)
theorem TyZero.run {t : TypeId} {agg : Bool} {zs : List Value} [T : TyZero P t agg zs] (w : World) : ∃ z, (zeroValue t).run P w = .ok z w ∧ z.cells.toList = zs := by
  obtain ⟨i, z, h1, h2, h3, _⟩ := T.zero
  exact ⟨z, by simp [zeroValue, typeInfo, h1, h2], h3⟩
theorem AOPS_alloc {t : TypeId} {agg : Bool} {zs : List Value} [T : TyZero P t agg zs] {cs : List AV} (hc : zs.map cav = cs) (hs : aput sl dst (.ptr σ.next 0) = sl') (h : AOPS P ops r sl' ⟨(σ.next, cs) :: σ.objs, σ.toks, σ.next + 1⟩ Q) : AOPS P ops (⟨dst, .alloc t, ty, pos, after, none⟩ :: r) sl σ Q :=
  AOPS_eff (av := .ptr σ.next 0) rfl (fun base Fi M a w hr => by
    obtain ⟨z, hz, hzs⟩ := T.run w
    have h1 : RepsL M w cs z.cells.toList := by rw [hzs, ← hc]; exact cavs_reps zs
    refine ⟨.pointer (some ⟨w.heap.size, 0, none⟩), w.alloc (.cells z.cells t), _, .inl ?_, Reps.newPtr _, St.newObj hr.2.2 h1 t, Stp.newObj hr.2.2 _⟩
    simp [execOp, Instr.alloc, hz, newVar, newRow]) hs h

/-! ### Loads and stores -/
theorem AOPS_load {t : TypeId} {agg : Bool} {sz off : Nat} {id : Int} {cells : List AV} {av : AV} (hx : aev sl x = .ptr id off) [T : TyVar P t agg sz] (ho : alook σ.objs id = some cells) (hp : aload agg sz cells off = some av) (hs : aput sl dst av = sl') (h : AOPS P ops r sl' σ Q) : AOPS P ops (⟨dst, .load t x, ty, pos, after, none⟩ :: r) sl σ Q :=
  AOPS_eff (av := av) rfl (fun base Fi M a w hr => by
    have h1 := ev1 hr.2.1 hx
    unfold Reps at h1
    obtain ⟨b, h0, h1⟩ := h1
    obtain ⟨_, b', vs, e, h2, _, h4, h5⟩ := hr.2.2.obs id cells ho
    rw [h0] at h2; cases h2
    obtain ⟨v, h6, h7⟩ := loadVar_ok (b := b) (o := 0) (L := fun w' => w' = w) T h5 (fun w' hw j u hu => by subst hw; rw [cell_of_row w' _ _ _ _ _ h4]; simpa using hu) hp
    replace h6 := h6 w rfl
    rw [Nat.zero_add] at h6
    exact ⟨v, w, M, .inl (by simp [execOp, h1, Instr.loadAt, Instr.sureAddr, h6]), h7, hr.2.2, Stp.refl _ _ _ _⟩) hs h
/-- A row of cells, some of them written. -/
def acut (cells : List AV) (off : Nat) (vs : List AV) : List AV := cells.take off ++ vs ++ cells.drop (off + vs.length)
theorem Stp.store (S : St base Fi M w σ) {id : Int} {b : Nat} {e : TypeId} {cur : Array Value} (hb : M.ob id = some b) (hF : ¬ Fi id) (hZ : ¬ M.fz id) (hbase : base ≤ b) (hg : w.heap[b]? = some (.cells cur e (0, 0))) (vs : Array Value) : Stp base Fi M w M (w.setRow b vs) := by
  refine ⟨rfl, rfl, rfl, by simp [World.setRow], fun k hk => setRow_other w b k _ (by omega), fun _ _ h => h, fun id T h => ⟨T, h, rfl, .inl rfl⟩, ?_, ?_, fun _ _ h => h, ?_⟩
  · intro c j v hs hc
    have hne : c ≠ b := by rintro rfl; exact hZ (hs.1 id hb)
    exact ⟨(World.cell?_of_block (w := w) (a := ⟨c, j, none⟩) (setRow_other w b c vs hne)).trans hc, hs⟩
  · intro id' c hf hc
    refine setRow_other w b c vs ?_
    rintro rfl
    exact hF (S.inj id id' c hb hc ▸ hf)
  · intro id' T c e' ce hf hT hc
    refine setRow_other w b c vs ?_
    rintro rfl
    exact S.dis id id' c T e' ce hb hT hc
theorem St.store (S : St base Fi M w σ) {id : Int} {b : Nat} {e : TypeId} {cur : Array Value} {cells : List AV} (ho : alook σ.objs id = some cells) (hb : M.ob id = some b) (hbase : base ≤ b) (hg : w.heap[b]? = some (.cells cur e (0, 0))) {cells' : List AV} {vs : Array Value} (hr : RepsL M w cells' vs.toList) : St base Fi M (w.setRow b vs) ⟨aset σ.objs id cells', σ.toks, σ.next⟩ := by
  have hF := (S.obs id cells ho).1
  have T := Stp.store S hb hF.1 hF.2 hbase hg vs
  refine ⟨by simpa [World.setRow] using S.base_le, ?_, ?_, S.inj, S.dis, S.tinj, by simpa [World.setRow] using S.obsz, by simpa [World.setRow] using S.tksz, S.fresh⟩
  · intro id' cs hl
    simp only [alook_aset] at hl
    split at hl
    · rename_i he
      subst he
      rw [ho] at hl
      cases hl
      exact ⟨hF, b, vs, e, hb, hbase, setRow_heap w b cur vs e _ hg, RepsL.stp T _ _ hr⟩
    · rename_i he
      obtain ⟨h1, c, us, e', h2, h3, h4, h5⟩ := S.obs id' cs hl
      refine ⟨h1, c, us, e', h2, h3, ?_, RepsL.stp T _ _ h5⟩
      rw [setRow_other w b c vs (by rintro rfl; exact he (S.inj id id' c hb h2))]
      exact h4
  · intro id' top hl
    obtain ⟨h1, Tk, h2, h3, h4⟩ := S.tks id' top hl
    refine ⟨h1, Tk, h2, h3, fun c e' ce hc => ?_⟩
    obtain ⟨h5, h6⟩ := h4 c e' ce hc
    have hB := setRow_other w b c vs (by rintro rfl; exact S.dis id id' c Tk e' ce hb h2 hc)
    exact ⟨h5, h6.heap hB⟩
theorem AOPS_store {t : TypeId} {agg : Bool} {sz off : Nat} {id : Int} {cells : List AV} {av : AV} {vs : List AV} {objs' : List (Int × List AV)} (hx : aev sl x = .ptr id off) (hy : aev sl y = av) [T : TyVar P t agg sz] (ho : alook σ.objs id = some cells) (hc : av.cells = vs) (hf : vs.all AV.one = true) (hfl : av.flat = true) (hsz : vs.length = sz) (hle : off + sz ≤ cells.length) (hob : aset σ.objs id (acut cells off vs) = objs') (hs : aput sl dst .und = sl') (h : AOPS P ops r sl' ⟨objs', σ.toks, σ.next⟩ Q) : AOPS P ops (⟨dst, .store t x y, ty, pos, after, none⟩ :: r) sl σ Q :=
  AOPS_eff (av := .und) rfl (fun base Fi M a w hr => by
    have h1 := ev1 hr.2.1 hx
    have h2 := (ev1 hr.2.1 hy).flat hfl
    unfold Reps at h1
    obtain ⟨b, h0, h1⟩ := h1
    obtain ⟨_, b', cur, e, h3, hbase, h4, h5⟩ := hr.2.2.obs id cells ho
    rw [h0] at h3; cases h3
    rw [hc] at h2
    have hl := h2.length
    have hl2 := h5.length
    have hone := h2.ones hf
    have hrun := run_storeCells_at P b off e (a.eval y).cells.toList 0 cur w h4 (by rw [hl]; simp at hl2; omega) hone
    have h6 := T.sizeOf w
    subst hob
    refine ⟨undef, _, M, .inr ⟨?_, rfl⟩, by unfold Reps; rfl, St.store hr.2.2 ho h0 hbase h4 (cells' := acut cells off vs) (vs := (cur.toList.take (off + 0) ++ (a.eval y).cells.toList ++ cur.toList.drop (off + 0 + (a.eval y).cells.toList.length)).toArray) ?_, Stp.store hr.2.2 h0 (hr.2.2.obs id cells ho).1.1 (hr.2.2.obs id cells ho).1.2 hbase h4 _⟩
    · have hsz' : (a.eval y).cells.size = sz := by have : (a.eval y).cells.size = (a.eval y).cells.toList.length := by simp
                                                   rw [this, hl, hsz]
      simp only [execOp, h1, Instr.storeAt, Instr.sureAddr, storeVar, Sem.run_bind, Sem.run_pure, Result.andThen_ok, h6, hsz', ne_eq, not_true_eq_false, if_false, hrun]
    · simp only [acut, Nat.add_zero]
      have := ((h5.take off).append h2).append (h5.drop (off + vs.length))
      rw [hl]
      exact this) hs h
end Go.Proofs.Ytnjkklkjlloedaa
