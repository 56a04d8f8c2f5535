/- The abstract machine: calls whose arguments are written out; weaker arguments; what may be taken first, reckoned. -/
import Derived.Test.YtnjkklkjlloedaaAmY
namespace Go.Proofs.Ytnjkklkjlloedaa
open Go.RowKit
set_option linter.unusedVariables false
set_option linter.unusedSimpArgs false
variable {base : Nat} {Fi : Int → Prop} {M : MM} {w w' : World}
variable {P : Program} {ops : Array Oper} {r : List Oper} {sl sl' : List AV} {σ σ' : ASt} {Q : Exit → List AV → ASt → Prop}
variable {dst : Option Tmp} {ty : TypeId} {pos : String} {after : Array Edge} {x y z : Operand} {objs : List (Int × List AV)} {toks : List (Int × Tq)} {next : Int}

/-! ### A call's arguments, written out -/
def argsX (sl : List AV) (cap : List AV) : List Operand → Option (List AV)
  | [] => some cap
  | x :: xs => match aevo sl x with | some v => (match argsX sl cap xs with | some r => some (v :: r) | none => none) | none => none
def argsF (sl : List AV) (first : List AV) (xs : List Operand) (cap : List AV) : Option (List AV) :=
  match argsX sl cap xs with
  | some r => (match first with
    | [] => some r
    | [a] => some (a :: r)
    | [a, b] => some (a :: b :: r)
    | _ => none)
  | none => none
theorem argsX_ok : ∀ {xs : List Operand} {cap args : List AV}, argsX sl cap xs = some args → xs.map (aev sl) ++ cap = args
  | x :: xs, cap, args, h => by
    simp only [argsX] at h
    split at h
    · rename_i v hv
      split at h
      · rename_i q hq; cases h; simp [← argsX_ok hq, aevo_eq hv]
      · cases h
    · cases h
  | [], cap, args, h => by simp [argsX] at h; simp [h]
theorem argsF_ok {f : List AV} {xs : List Operand} {cap args : List AV} (h : argsF sl f xs cap = some args) : f ++ xs.map (aev sl) ++ cap = args := by
  unfold argsF at h
  split at h
  · rename_i r hr
    have := argsX_ok hr
    split at h <;> first | (cases h; simp [← this]; done) | cases h
  · cases h

/-! ### Weaker arguments: no buffers, no nil -/
mutual
def AV.wk : AV → AV
  | .sl _ cells n => .sl .none (AV.wkL cells) n
  | .nils => .sl .none [] 0
  | .agg cs => .agg (AV.wkL cs)
  | .iface t a => .iface t a.wk
  | .any => .any
  | .und => .und
  | .int k n => .int k n
  | .bool b => .bool b
  | .str s => .str s
  | .nilp => .nilp
  | .ptr i o => .ptr i o
  | .row i o n => .row i o n
  | .buf i o n c => .buf i o n c
  | .nilm => .nilm
  | .map i => .map i
  | .nili => .nili
  | .epr cells n => .epr cells n
  | .fn f a b => .fn f a b
  | .tup cs => .tup (AV.wkL cs)
def AV.wkL : List AV → List AV
  | [] => []
  | a :: r => a.wk :: AV.wkL r
end
theorem AV.wkL_length : ∀ l : List AV, (AV.wkL l).length = l.length
  | [] => rfl
  | a :: r => by simp [AV.wkL, AV.wkL_length r]
theorem AV.wkL_append : ∀ a b : List AV, AV.wkL (a ++ b) = AV.wkL a ++ AV.wkL b
  | [], b => rfl
  | x :: a, b => by simp only [List.cons_append, AV.wkL, AV.wkL_append a b]
theorem AV.wk_bvA (b : UInt8) : (bvA b).wk = bvA b := by unfold bvA AV.wk; rfl
theorem AV.wkL_bvA : ∀ l : List UInt8, AV.wkL (l.map bvA) = l.map bvA
  | [] => rfl
  | b :: l => by simp only [List.map_cons, AV.wkL, AV.wk_bvA, AV.wkL_bvA l]
mutual
theorem Reps.wk : ∀ (a : AV) (v : Value), Reps M w a v → Reps M w a.wk v
  | .sl own cells n, v, h => by
    unfold AV.wk; unfold Reps at h ⊢
    obtain ⟨A, c, vs, h1, h2, h3, h4, h5, h6, h7, h8⟩ := h
    exact ⟨A, c, vs, h1, h2, h3, h4, h5, RepsL.wk cells vs h6, fun h0 => by rw [h7 h0]; rfl, trivial⟩
  | .nils, v, h => by
    unfold AV.wk; unfold Reps at h ⊢
    exact ⟨none, 0, [], h, Nat.le_refl _, by simp, fun _ => rfl, .inl rfl, RepsL.nil, fun _ => rfl, trivial⟩
  | .agg cs, v, h => by
    unfold AV.wk; unfold Reps at h ⊢
    obtain ⟨vs, h1, h2⟩ := h
    exact ⟨vs, h1, RepsL.wk cs _ h2⟩
  | .tup cs, v, h => by
    unfold AV.wk; unfold Reps at h ⊢
    obtain ⟨vs, h1, h2⟩ := h
    exact ⟨vs, h1, RepsL.wk cs _ h2⟩
  | .iface t a, v, h => by
    unfold AV.wk; unfold Reps at h ⊢
    obtain ⟨u, h1, h2⟩ := h
    exact ⟨u, h1, Reps.wk a u h2⟩
  | .epr cells n, v, h => by unfold AV.wk; exact h
  | .fn f a b, v, h => by unfold AV.wk; exact h
  | .any, v, h => by unfold AV.wk; exact h
  | .und, v, h => by unfold AV.wk; exact h
  | .int _ _, v, h => by unfold AV.wk; exact h
  | .bool _, v, h => by unfold AV.wk; exact h
  | .str _, v, h => by unfold AV.wk; exact h
  | .nilp, v, h => by unfold AV.wk; exact h
  | .ptr _ _, v, h => by unfold AV.wk; exact h
  | .row _ _ _, v, h => by unfold AV.wk; exact h
  | .buf _ _ _ _, v, h => by unfold AV.wk; exact h
  | .nilm, v, h => by unfold AV.wk; exact h
  | .map _, v, h => by unfold AV.wk; exact h
  | .nili, v, h => by unfold AV.wk; exact h
theorem RepsL.wk : ∀ (l : List AV) (vs : List Value), RepsL M w l vs → RepsL M w (AV.wkL l) vs
  | [], vs, h => by unfold AV.wkL; exact h
  | a :: r, vs, h => by
    unfold AV.wkL; unfold RepsL at h ⊢
    obtain ⟨v, vr, h1, h2, h3⟩ := h
    exact ⟨v, vr, h1, Reps.wk a v h2, RepsL.wk r vr h3⟩
end
/-- What is known of the store, weakened. -/
structure AWeakS (σ1 σ : ASt) : Prop where
  objs : ∀ id c, alook σ1.objs id = some c → ∃ c0, alook σ.objs id = some c0 ∧ (c = c0 ∨ c = AV.wkL c0)
  toks : ∀ id t, alook σ1.toks id = some t → alook σ.toks id = some t
  next : σ.next ≤ σ1.next
theorem St.weakS (S : St base Fi M w σ) {σ1 : ASt} (h : AWeakS σ1 σ) : St base Fi M w σ1 := by
  refine ⟨S.base_le, fun id c hl => ?_, fun id t hl => S.tks id t (h.toks id _ hl), fun id sh kvs hl => S.mps id sh kvs (h.toks id _ hl), S.inj, S.dis, S.tinj, S.obsz, S.tksz, fun id hid => S.fresh id (Int.le_trans h.next hid)⟩
  obtain ⟨c0, h1, h2⟩ := h.objs id c hl
  obtain ⟨g1, b, us, e, g2, g3, g4, g5⟩ := S.obs id c0 h1
  refine ⟨g1, b, us, e, g2, g3, g4, ?_⟩
  rcases h2 with rfl | rfl
  · exact g5
  · exact RepsL.wk _ _ g5
theorem ACalls.wk {f : FuncId} {args args' : List AV} {K : AV → ASt → Prop} (hw : AV.wkL args = args') (h : ACalls P f args' σ K) : ACalls P f args σ K := fun base Fi M w vs S hr => h base Fi M w vs S (hw ▸ RepsL.wk args vs hr)

theorem AWeakW {f : FuncId} {args : List AV} {K K' : AV → ASt → Prop} (h : ACalls P f args σ K) (hk : ∀ r σ', K r σ' → ∃ σ1, AWeakS σ1 σ' ∧ K' r.wk σ1) : ACalls P f args σ K' := by
  intro base Fi M w vs S hr
  refine (h base Fi M w vs S hr).mono ?_
  rintro e w' ⟨r, σ', M', v, h1, h2, h3, h4, h5⟩
  obtain ⟨σ1, k2, k3⟩ := hk _ _ h1
  exact ⟨r.wk, σ1, M', v, k3, h2, Reps.wk _ _ h3, h4.weakS k2, h5⟩
theorem AVal.mkw {f : FuncId} {args : List AV} {R : AV} (hA : AV.shutL args = true) (hR : R.shut = true) (h : ACalls P f args ⟨[], [], 0⟩ (fun rv _ => rv.wk = R)) : AVal P f args R := by
  intro σ base Fi M w vs S hr
  refine (seen_none h hA S hr).mono ?_
  rintro e w' ⟨rv, σ2, M', v, hk, he, hv, S2, TM, S3, hL, _⟩
  refine ⟨R, σ, M, v, ⟨rfl, rfl⟩, he, Reps.less hL R v hR (hk ▸ Reps.wk rv v hv), S3, TM⟩
theorem AMth.mkw {f : FuncId} {cells args cells' : List AV} {R : AV} (hA : AV.shutL args = true) (hC : AV.shutL cells = true) (hR : R.shut = true) (hC' : AV.shutL cells' = true)
    (h : ACalls P f (.ptr 0 0 :: args) ⟨[(0, cells)], [], 1⟩ (fun rv σ1 => rv.wk = R ∧ 1 ≤ σ1.next ∧ ∃ c1, alook σ1.objs 0 = some c1 ∧ (c1 = cells' ∨ AV.wkL c1 = cells'))) : AMth P f cells args R cells' := by
  refine AMth.mk hA hC hR hC' (AWeakW h ?_)
  rintro r σ' ⟨g1, g2, c1, g3, g4⟩
  refine ⟨⟨[(0, cells')], [], σ'.next⟩, ⟨fun id c hl => ?_, fun id t hl => by simp [alook] at hl, Int.le_refl _⟩, .inl g1, g2, cells', by simp [alook], .inl rfl⟩
  simp only [alook] at hl
  split at hl
  · rename_i h0
    subst h0; cases hl
    exact ⟨c1, g3, by rcases g4 with g4 | g4; exact .inl g4.symm; exact .inr g4.symm⟩
  · cases hl
theorem ANew.mkw {f : FuncId} {args cells : List AV} {d : Int} (hd : 0 ≤ d) (hA : AV.shutL args = true) (hC : AV.shutL cells = true)
    (h : ACalls P f args ⟨[], [], 0⟩ (fun rv σ1 => rv = .ptr d 0 ∧ ∃ c1, alook σ1.objs d = some c1 ∧ (c1 = cells ∨ AV.wkL c1 = cells))) : ANew P f args cells d := by
  refine ANew.mk hd hA hC (AWeakW h ?_)
  rintro r σ' ⟨rfl, c1, g3, g4⟩
  refine ⟨⟨[(d, cells)], [], σ'.next⟩, ⟨fun id c hl => ?_, fun id t hl => by simp [alook] at hl, Int.le_refl _⟩, by unfold AV.wk; rfl, cells, by simp [alook], .inl rfl⟩
  simp only [alook] at hl
  split at hl
  · rename_i h0
    subst h0; cases hl
    exact ⟨c1, g3, by rcases g4 with g4 | g4; exact .inl g4.symm; exact .inr g4.symm⟩
  · cases hl
/-! ### Calls -/
section
variable {f : Operand} {g : FuncId} {first cap : List AV} {as_ : List Operand} {ats : Array TypeId} {args args' cells cells' : List AV} {R : AV} {top sz n : Nat} {id d : Int} {objs' : List (Int × List AV)}
theorem R_call_val (hf : aev sl f = .fn g first cap) (ha : argsF sl first as_ cap = some args) (h : AVal P g args R) (hc : ∀ (vs : Array Value) (w : World), (callFunc g vs).run P w = .ok (.enter g vs) w) (hs : aput sl dst R = sl') (hk : AOPS P ops r sl' σ Q) : AOPS P ops (⟨dst, .call { callee := .value f, args := as_.toArray, argTypes := ats }, ty, pos, after, none⟩ :: r) sl σ Q :=
  S_call_val hf (argsF_ok ha) h hc hs hk
theorem R_call_valw (hf : aev sl f = .fn g first cap) (ha : argsF sl first as_ cap = some args) (hw : AV.wkL args = args') (h : AVal P g args' R) (hc : ∀ (vs : Array Value) (w : World), (callFunc g vs).run P w = .ok (.enter g vs) w) (hs : aput sl dst R = sl') (hk : AOPS P ops r sl' σ Q) : AOPS P ops (⟨dst, .call { callee := .value f, args := as_.toArray, argTypes := ats }, ty, pos, after, none⟩ :: r) sl σ Q :=
  S_call_val hf (argsF_ok ha) (fun σ => (h σ).wk hw) hc hs hk
theorem R_call_tok (hf : aev sl f = .fn g first cap) (ha : argsF sl first as_ cap = some args) (h : ATok P g args top sz cells n) (hc : ∀ (vs : Array Value) (w : World), (callFunc g vs).run P w = .ok (.enter g vs) w) (hs : aput sl dst (.sl (.tok next top sz) cells n) = sl') {nx : Int} (hn : next + 1 = nx) (hk : AOPS P ops r sl' ⟨objs, (next, .top top) :: toks, nx⟩ Q) : AOPS P ops (⟨dst, .call { callee := .value f, args := as_.toArray, argTypes := ats }, ty, pos, after, none⟩ :: r) sl ⟨objs, toks, next⟩ Q :=
  S_call_tok hf (argsF_ok ha) h hc hs (by rw [hn]; exact hk)
theorem R_call_tokw (hf : aev sl f = .fn g first cap) (ha : argsF sl first as_ cap = some args) (hw : AV.wkL args = args') (h : ATok P g args' top sz cells n) (hc : ∀ (vs : Array Value) (w : World), (callFunc g vs).run P w = .ok (.enter g vs) w) (hs : aput sl dst (.sl (.tok next top sz) cells n) = sl') {nx : Int} (hn : next + 1 = nx) (hk : AOPS P ops r sl' ⟨objs, (next, .top top) :: toks, nx⟩ Q) : AOPS P ops (⟨dst, .call { callee := .value f, args := as_.toArray, argTypes := ats }, ty, pos, after, none⟩ :: r) sl ⟨objs, toks, next⟩ Q :=
  S_call_tok hf (argsF_ok ha) (fun σ => (h σ).wk hw) hc hs (by rw [hn]; exact hk)
theorem AMth.wk (hw : AV.wkL args = args') (h : AMth P g cells args' R cells') : AMth P g cells args R cells' := fun id σ h1 h2 h3 base Fi M w vs S hr => h id σ h1 h2 h3 base Fi M w vs S (by
  unfold RepsL at hr ⊢
  obtain ⟨v, vr, e1, e2, e3⟩ := hr
  exact ⟨v, vr, e1, e2, hw ▸ RepsL.wk args vr e3⟩)
theorem R_call_mth (hf : aev sl f = .fn g first cap) (ha : argsF sl first as_ cap = some (.ptr id 0 :: args)) (ho : alook objs id = some cells) (hto : alook toks id = none) (hlt : id < next) (h : AMth P g cells args R cells')
    (hc : ∀ (vs : Array Value) (w : World), (callFunc g vs).run P w = .ok (.enter g vs) w) (hob : asetF objs id cells' = some objs') (hs : aput sl dst R = sl') (hk : AOPS P ops r sl' ⟨objs', toks, next⟩ Q) : AOPS P ops (⟨dst, .call { callee := .value f, args := as_.toArray, argTypes := ats }, ty, pos, after, none⟩ :: r) sl ⟨objs, toks, next⟩ Q :=
  S_call_mth hf (argsF_ok ha) ho hto hlt h hc hob hs hk
theorem R_call_mthw (hf : aev sl f = .fn g first cap) (ha : argsF sl first as_ cap = some (.ptr id 0 :: args)) (hw : AV.wkL args = args') (ho : alook objs id = some cells) (hto : alook toks id = none) (hlt : id < next) (h : AMth P g cells args' R cells')
    (hc : ∀ (vs : Array Value) (w : World), (callFunc g vs).run P w = .ok (.enter g vs) w) (hob : asetF objs id cells' = some objs') (hs : aput sl dst R = sl') (hk : AOPS P ops r sl' ⟨objs', toks, next⟩ Q) : AOPS P ops (⟨dst, .call { callee := .value f, args := as_.toArray, argTypes := ats }, ty, pos, after, none⟩ :: r) sl ⟨objs, toks, next⟩ Q :=
  S_call_mth hf (argsF_ok ha) ho hto hlt (h.wk hw) hc hob hs hk
theorem R_call_new (hf : aev sl f = .fn g first cap) (ha : argsF sl first as_ cap = some args) (h : ANew P g args cells d)
    (hc : ∀ (vs : Array Value) (w : World), (callFunc g vs).run P w = .ok (.enter g vs) w) {nd nx : Int} (hd : d + next = nd) (hn : d + 1 + next = nx) (hs : aput sl dst (.ptr nd 0) = sl') (hk : AOPS P ops r sl' ⟨(nd, cells) :: objs, toks, nx⟩ Q) : AOPS P ops (⟨dst, .call { callee := .value f, args := as_.toArray, argTypes := ats }, ty, pos, after, none⟩ :: r) sl ⟨objs, toks, next⟩ Q :=
  by subst hd hn; exact S_call_new hf (argsF_ok ha) h hc hs hk
theorem R_call_neww (hf : aev sl f = .fn g first cap) (ha : argsF sl first as_ cap = some args) (hw : AV.wkL args = args') (h : ANew P g args' cells d)
    (hc : ∀ (vs : Array Value) (w : World), (callFunc g vs).run P w = .ok (.enter g vs) w) {nd nx : Int} (hd : d + next = nd) (hn : d + 1 + next = nx) (hs : aput sl dst (.ptr nd 0) = sl') (hk : AOPS P ops r sl' ⟨(nd, cells) :: objs, toks, nx⟩ Q) : AOPS P ops (⟨dst, .call { callee := .value f, args := as_.toArray, argTypes := ats }, ty, pos, after, none⟩ :: r) sl ⟨objs, toks, next⟩ Q :=
  by subst hd hn; exact S_call_new hf (argsF_ok ha) (fun σ => (h σ).wk hw) hc hs hk
end

theorem AResults.cell1 {t : Tmp} {ty : TypeId} {sz : Nat} {id : Int} {cells : List AV} {av : AV} {off : Nat} {rs : List ResultVar} {xs : List AV} [T : TyVar P ty false sz] (h : aev sl (.tmp t) = .ptr id off) (ho : alook σ.objs id = some cells) (hl : cells[off]? = some av) (k : AResults P sl σ rs xs) : AResults P sl σ (.cell t ty :: rs) (av :: xs) := .cell h T ho (by simp [aload, hl]) k
/-! ### Bytes -/
/-- Bytes, as an argument or an answer. -/
abbrev bsA (l : List UInt8) : AV := .sl .none (l.map bvA) l.length
theorem bsA_shut (l : List UInt8) : (bsA l).shut = true := by unfold bsA AV.shut; exact shutL_bvA l
theorem bsA_fg (l : List UInt8) : (bsA l).fg = bsA l := by unfold bsA AV.fg; rw [fgL_bvA]
theorem bsA_wk (l : List UInt8) : (bsA l).wk = bsA l := by unfold bsA AV.wk; rw [AV.wkL_bvA]
theorem bsA_eq {l : List UInt8} {n : Nat} (h : l.length = n) : AV.sl .none (l.map bvA) n = bsA l := by subst h; rfl
theorem wk_bs {own : AOwn} {l : List UInt8} {n : Nat} (h : l.length = n) : (AV.sl own (l.map bvA) n).wk = bsA l := by subst h; unfold AV.wk; rw [AV.wkL_bvA]
/-- Texts, as an argument or an answer. -/
abbrev lkA (ls : List (List UInt8)) : AV := .sl .none (ls.map bsA) ls.length
theorem bsAs_shut : ∀ ls : List (List UInt8), AV.shutL (ls.map bsA) = true
  | [] => rfl
  | l :: ls => by simp only [List.map_cons, AV.shutL, bsA_shut, bsAs_shut ls, Bool.and_self]
theorem lkA_shut (ls : List (List UInt8)) : (lkA ls).shut = true := by unfold lkA AV.shut; exact bsAs_shut ls
theorem bsAs_wk : ∀ ls : List (List UInt8), AV.wkL (ls.map bsA) = ls.map bsA
  | [] => rfl
  | l :: ls => by simp only [List.map_cons, AV.wkL, bsA_wk, bsAs_wk ls]
theorem lk_wk {own : AOwn} {ls : List (List UInt8)} {n : Nat} (h : ls.length = n) : (AV.sl own (ls.map bsA) n).wk = lkA ls := by subst h; unfold AV.wk; rw [bsAs_wk]
/-- Whatever is known of a slice's room. -/
theorem AVal.own {f : FuncId} {cs : List AV} {n : Nat} {R : AV} (h : AVal P f [.sl .none cs n] R) (own : AOwn) : AVal P f [.sl own cs n] R := fun σ base Fi M w vs S hr => h σ base Fi M w vs S (by
  unfold RepsL at hr ⊢
  obtain ⟨v, vr, e1, e2, e3⟩ := hr
  refine ⟨v, vr, e1, ?_, e3⟩
  unfold Reps at e2 ⊢
  obtain ⟨A, c, us, g1, g2, g3, g4, g5, g6, g7, _⟩ := e2
  exact ⟨A, c, us, g1, g2, g3, g4, g5, g6, g7, trivial⟩)
theorem adoptO_ok {a : Act} (hr : Rel base Fi M a w sl ⟨objs, toks, next⟩) {id : Int} {j sz : Nat} {cells : List AV} (ho : alook objs id = some cells) (hj : cells[j]? = some .nils) : ∃ M', Rel base Fi M' a w sl ⟨aset objs id (cells.set j (.sl (.tok next 0 sz) [] 0)), (next, .top 0) :: toks, next + 1⟩ ∧ Stp base Fi M w M' w := by
  have S := hr.2.2
  have hT := (Grew.refl w).tok S (id := next) (T := ⟨sz, 0, none⟩) (.inl rfl) (fun b e' ce h => by cases h)
  have S' : St base Fi (M.tok next ⟨sz, 0, none⟩) w ⟨objs, (next, .top 0) :: toks, next + 1⟩ := by
    refine (Grew.refl w).tok_st S (.inl rfl) (fun b e' ce h => by cases h) (fun i top h => ?_) (by show next ≤ next + 1; omega) (by show next < next + 1; omega)
    simp only [alook] at h
    split at h
    · rename_i he; cases h; exact .inl ⟨he.symm, rfl⟩
    · rename_i he; exact .inr ⟨Ne.symm he, h⟩
  refine ⟨M.tok next ⟨sz, 0, none⟩, ⟨hr.1, RepsL.stp hT _ _ hr.2.1, S'.base_le, fun i c hl => ?_, S'.tks, S'.mps, S'.inj, S'.dis, S'.tinj, S'.obsz, S'.tksz, S'.fresh⟩, hT⟩
  simp only [alook_aset] at hl
  split at hl
  · rename_i he
    subst he
    rw [ho] at hl
    simp only [Option.map_some, Option.some.injEq] at hl
    subst hl
    obtain ⟨h1, b, vs, e, h2, h3, h4, h5⟩ := S'.obs id cells ho
    refine ⟨h1, b, vs, e, h2, h3, h4, ?_⟩
    obtain ⟨v, hv, hrv⟩ := h5.get j _ hj
    unfold Reps at hrv
    subst hrv
    have h8 : Reps (M.tok next ⟨sz, 0, none⟩) w (.sl (.tok next 0 sz) [] 0) (.slice none 0 0) := by
      unfold Reps
      exact ⟨none, 0, [], rfl, Nat.le_refl _, by simp, fun _ => rfl, .inl rfl, RepsL.nil, fun _ => rfl, ⟨sz, 0, none⟩, by simp [MM.tok], rfl, Nat.le_refl _, by simp, fun _ => rfl⟩
    have h9 := h5.set j h8
    have h10 : vs.toList.set j (.slice none 0 0) = vs.toList := by
      apply List.ext_getElem?
      intro i
      rw [List.getElem?_set]
      split
      · rename_i hi; subst hi; rw [hv]; split
        · rfl
        · rename_i hlt; rw [List.getElem?_eq_none (by omega)] at hv; cases hv
      · rfl
    rw [h10] at h9
    exact h9
  · exact S'.obs i c hl
/-- nil in an object is a buffer. -/
theorem AWP_adoptO {c : Code} (id : Int) (j sz : Nat) {cells cells' : List AV} {objs' : List (Int × List AV)} (ho : alook objs id = some cells) (hj : cells[j]? = some .nils) (hc : setF cells j (.sl (.tok next 0 sz) [] 0) = some cells') (hob : asetF objs id cells' = some objs') (h : AWP P c sl ⟨objs', (next, .top 0) :: toks, next + 1⟩ Q) : AWP P c sl ⟨objs, toks, next⟩ Q := by
  intro base Fi M0 w0 M a w hst hr
  obtain ⟨M', h1, h2⟩ := adoptO_ok (sz := sz) hr ho hj
  rw [setF_ok hc, asetF_ok hob] at h1
  exact h base Fi M0 w0 M' a w (hst.trans h2) h1
theorem adoptF_ok {a : Act} (hr : Rel base Fi M a w sl ⟨objs, toks, next⟩) {t sz n : Nat} {cells : List AV} (ht : sl[t]? = some (.sl .full cells n)) (hl : cells.length = n * sz) : ∃ M', Rel base Fi M' a w (sl.set t (.sl (.tok next n sz) cells n)) ⟨objs, (next, .top n) :: toks, next + 1⟩ ∧ Stp base Fi M w M' w := by
  have S := hr.2.2
  have hT := (Grew.refl w).tok S (id := next) (T := ⟨sz, n, none⟩) (.inl rfl) (fun b e' ce h => by cases h)
  refine ⟨M.tok next ⟨sz, n, none⟩, ⟨hr.1, ?_, ?_⟩, hT⟩
  · obtain ⟨v, hv, hrv⟩ := hr.2.1.get t _ ht
    have hrv' := Reps.stp hT _ _ hrv
    have h8 : Reps (M.tok next ⟨sz, n, none⟩) w (.sl (.tok next n sz) cells n) v := by
      unfold Reps at hrv' ⊢
      obtain ⟨A, c, vs, g1, g2, g3, g4, g5, g6, g7, g8⟩ := hrv'
      exact ⟨A, c, vs, g1, g2, g3, g4, g5, g6, g7, ⟨sz, n, none⟩, by simp [MM.tok], rfl, Nat.le_refl _, hl, fun _ => g8⟩
    have h9 := (RepsL.stp hT _ _ hr.2.1).set t h8
    have h10 : a.tmps.toList.set t v = a.tmps.toList := by
      apply List.ext_getElem?
      intro i
      rw [List.getElem?_set]
      split
      · rename_i hi; subst hi; rw [hv]; split
        · rfl
        · rename_i hlt; rw [List.getElem?_eq_none (by omega)] at hv; cases hv
      · rfl
    rw [h10] at h9
    exact h9
  · refine (Grew.refl w).tok_st S (.inl rfl) (fun b e' ce h => by cases h) (fun i top h => ?_) (by show next ≤ next + 1; omega) (by show next < next + 1; omega)
    simp only [alook] at h
    split at h
    · rename_i he; cases h; exact .inl ⟨he.symm, rfl⟩
    · rename_i he; exact .inr ⟨Ne.symm he, h⟩
/-- A slice with no room is a buffer. -/
theorem AWP_adoptF {c : Code} (t sz : Nat) {n : Nat} {cells : List AV} (ht : sl[t]? = some (.sl .full cells n)) (hl : cells.length = n * sz) (hs : setF sl t (.sl (.tok next n sz) cells n) = some sl') (h : AWP P c sl' ⟨objs, (next, .top n) :: toks, next + 1⟩ Q) : AWP P c sl ⟨objs, toks, next⟩ Q := by
  intro base Fi M0 w0 M a w hst hr
  obtain ⟨M', h1, h2⟩ := adoptF_ok (sz := sz) hr ht hl
  rw [setF_ok hs] at h1
  exact h base Fi M0 w0 M' a w (hst.trans h2) h1
/-! ### A call that is walked on the spot -/
structure Inl (P : Program) (g : FuncId) (fn : Func) (c : Code) (m : Nat) : Prop where
  f : P.funcs[g]? = some fn
  b : fn.body = some c
  n : fn.ntmps = m
def frameF : List AV → Nat → Option (List AV)
  | a :: r, m + 1 => match frameF r m with | some q => some (a :: q) | none => none
  | [], m + 1 => match frameF [] m with | some q => some (.und :: q) | none => none
  | [], 0 => some []
  | _ :: _, 0 => none
theorem frameF_ok : ∀ {m : Nat} {args q : List AV}, frameF args m = some q → args ++ List.replicate (m - args.length) .und = q
  | m + 1, a :: r, q, h => by
    simp only [frameF] at h
    split at h
    · rename_i q' hq; cases h
      have := frameF_ok hq
      simp only [List.cons_append, List.length_cons, Nat.add_sub_add_right, this]
    · cases h
  | m + 1, [], q, h => by
    simp only [frameF] at h
    split at h
    · rename_i q' hq; cases h
      have := frameF_ok hq
      simp only [List.nil_append, List.length_nil, Nat.sub_zero] at this ⊢
      rw [List.replicate_succ, this]
    · cases h
  | 0, [], q, h => by simp [frameF] at h; simp [h]
  | 0, a :: r, q, h => by simp [frameF] at h
theorem R_call_inl {f : Operand} {g : FuncId} {first cap : List AV} {as_ : List Operand} {ats : Array TypeId} {args sl0 : List AV} {fn : Func} {c : Code} {m : Nat} (hf : aev sl f = .fn g first cap) (ha : argsF sl first as_ cap = some args) (h : Inl P g fn c m) (hc : ∀ (vs : Array Value) (w : World), (callFunc g vs).run P w = .ok (.enter g vs) w) (hs : frameF args m = some sl0) (hk : AWP P c sl0 σ (ARet P fn (fun rv σ' => AOPS P ops r (aput sl dst rv) σ' Q))) : AOPS P ops (⟨dst, .call { callee := .value f, args := as_.toArray, argTypes := ats }, ty, pos, after, none⟩ :: r) sl σ Q := by
  refine AOPS_call hf (argsF_ok ha) hc (ACalls_body h.f h.b rfl ?_) (fun rv σ' h => h)
  rw [h.n, frameF_ok hs]
  exact hk
theorem AOPS_putone {l : List Oper} {v : AV} (hs : aput sl dst v = sl') (h : AOPS P ops l sl' σ Q) : AOPS P ops l (aput sl dst (aone [v])) σ Q := by show AOPS P ops l (aput sl dst v) σ Q; rw [hs]; exact h
theorem AOPS_puttup {l : List Oper} {u v : AV} {vs : List AV} (hs : aput sl dst (.tup (u :: v :: vs)) = sl') (h : AOPS P ops l sl' σ Q) : AOPS P ops l (aput sl dst (aone (u :: v :: vs))) σ Q := by show AOPS P ops l (aput sl dst (.tup (u :: v :: vs))) σ Q; rw [hs]; exact h
/-! ### Cells, written out -/
def cellsF : AV → Option (List AV)
  | .agg cs => some cs
  | a => some [a]
theorem cellsF_ok {a : AV} {cs : List AV} (h : cellsF a = some cs) : a.cells = cs := by
  unfold cellsF at h
  split at h
  · cases h; rfl
  · rename_i hne
    cases h
    cases a <;> first | rfl | exact absurd rfl (hne _)
def zvF : List Value → Option (List AV)
  | [] => some []
  | v :: vs => match aevo [] (.const v) with
    | some a => (match zvF vs with | some r => some (a :: r) | none => none)
    | none => none
theorem zvF_ok : ∀ {vs : List Value} {cs : List AV}, zvF vs = some cs → vs.map cav = cs
  | [], cs, h => by simp [zvF] at h; subst h; rfl
  | v :: vs, cs, h => by
    simp only [zvF] at h
    split at h
    · rename_i a ha
      split at h
      · rename_i r hr
        cases h
        have := aevo_eq ha
        simp only [List.map_cons, zvF_ok hr]
        congr 1
      · cases h
    · cases h
theorem R_box {t : TypeId} {av : AV} {cells : List AV} {nx : Int} (hx : aevo sl x = some av) (hf : av.flat = true) (hc : cellsF av = some cells) (hs : aput sl dst (.ptr next 0) = sl') (hn : next + 1 = nx) (h : AOPS P ops r sl' ⟨(next, cells) :: objs, toks, nx⟩ Q) : AOPS P ops (⟨dst, .box t x, ty, pos, after, none⟩ :: r) sl ⟨objs, toks, next⟩ Q := T_box hx hf (cellsF_ok hc) hs (by rw [hn]; exact h)
theorem R_alloc {t : TypeId} {agg : Bool} {zs : List Value} [T : TyZero P t agg zs] {cs : List AV} {nx : Int} (hc : zvF zs = some cs) (hs : aput sl dst (.ptr next 0) = sl') (hn : next + 1 = nx) (h : AOPS P ops r sl' ⟨(next, cs) :: objs, toks, nx⟩ Q) : AOPS P ops (⟨dst, .alloc t, ty, pos, after, none⟩ :: r) sl ⟨objs, toks, next⟩ Q := AOPS_alloc (zvF_ok hc) hs (by rw [← hn] at h; exact h)
theorem S_buildF {t : TypeId} {agg : Bool} {zs : List Value} {pl : List (Nat × Nat)} {ps : List (Nat × Operand)} {cells zc : List AV} [T : TyPlaces P t pl] [Z : TyZero P t agg zs] (hz : zvF zs = some zc) (hf : fillF sl (fun i => pl[i]?) zc ps = some cells) (hs : aput sl dst (.agg cells) = sl') (h : AOPS P ops r sl' σ Q) : AOPS P ops (⟨dst, .build t ps.toArray, ty, pos, after, none⟩ :: r) sl σ Q := S_build (zc := zc) (by rw [← zvF_ok hz]; simp [zerosF]) hf hs h
theorem TS_buildF {t : TypeId} {agg : Bool} {zs : List Value} {pl : List (Nat × Nat)} {ps : List (Nat × Operand)} {cells zc : List AV} [T : TyPlaces P t pl] [Z : TyZero P t agg zs] (hz : zvF zs = some zc) (hf : fillF sl (fun i => pl[i]?) zc ps = some cells) (hs : aput sl dst (.agg cells) = sl') (h : ATK P ops r sl' σ Q) : ATK P ops (⟨dst, .build t ps.toArray, ty, pos, after, none⟩ :: r) sl σ Q := TS_build (zc := zc) (by rw [← zvF_ok hz]; simp [zerosF]) hf hs h
/-- v, ok := x.(T), x of another type. -/
theorem S_assert_no {t t2 u : TypeId} {agg : Bool} {zs : List Value} {a av : AV} (hx : aev sl x = .iface u a) [T : TyConc P t] [Z : TyZero P t agg zs] (hne : (u == t) = false) (hz : (match zvF zs, agg with | some [z], false => some z | some cs, true => some (.agg cs) | _, _ => none) = some av) (hs : aput sl dst (.tup [av, .bool false]) = sl') (h : AOPS P ops r sl' σ Q) : AOPS P ops (⟨dst, .typeAssert x t2 t true, ty, pos, after, none⟩ :: r) sl σ Q :=
  AOPS_pure (av := .tup [av, .bool false]) rfl (fun M a w hr => by
    have h1 := ev1 hr hx
    unfold Reps at h1
    obtain ⟨v, h1, h2⟩ := h1
    obtain ⟨d, hd, hni⟩ := T.und
    obtain ⟨i, z, k1, k2, hzs, hag⟩ := Z.zero
    have hzr : ∀ w : World, (zeroValue t).run P w = .ok z w := fun w => by simp [zeroValue, typeInfo, k1, k2]
    have hne' : u ≠ t := by simpa using hne
    have h3 := fun w => run_typeAssert_no (P := P) hd hni hzr hne' t2 v w
    refine ⟨.tuple #[z, .bool false], by simp [execOp, h1, h3], ?_⟩
    have hzr : Reps M w av z := by
      have hL : RepsL M w (zs.map cav) zs := cavs_reps zs
      split at hz
      · rename_i q hq
        cases hz
        have := zvF_ok hq
        rw [this] at hL
        rw [← hzs] at hL
        cases z <;> first | (simp at hag; done) | (simp only [Value.cells] at hL; unfold RepsL at hL; obtain ⟨v1, vr, e1, e2, e3⟩ := hL; simp at e1; obtain ⟨rfl, rfl⟩ := e1; exact e2)
      · rename_i cs hq
        cases hz
        have := zvF_ok hq
        rw [this] at hL
        rw [← hzs] at hL
        cases z <;> first | (simp at hag; done) | (unfold Reps; exact ⟨_, rfl, hL⟩)
      · cases hz
    unfold Reps; exact ⟨_, rfl, RepsL.cons hzr (RepsL.one Reps_bool)⟩) hs h
/-- v, ok := x.(T), x of another type. -/
theorem TS_assert_no {t t2 u : TypeId} {agg : Bool} {zs : List Value} {a av : AV} (hx : aev sl x = .iface u a) [T : TyConc P t] [Z : TyZero P t agg zs] (hne : (u == t) = false) (hz : (match zvF zs, agg with | some [z], false => some z | some cs, true => some (.agg cs) | _, _ => none) = some av) (hs : aput sl dst (.tup [av, .bool false]) = sl') (h : ATK P ops r sl' σ Q) : ATK P ops (⟨dst, .typeAssert x t2 t true, ty, pos, after, none⟩ :: r) sl σ Q :=
  ATK_pure (av := .tup [av, .bool false]) rfl (fun M a w hr => by
    have h1 := ev1 hr hx
    unfold Reps at h1
    obtain ⟨v, h1, h2⟩ := h1
    obtain ⟨d, hd, hni⟩ := T.und
    obtain ⟨i, z, k1, k2, hzs, hag⟩ := Z.zero
    have hzr : ∀ w : World, (zeroValue t).run P w = .ok z w := fun w => by simp [zeroValue, typeInfo, k1, k2]
    have hne' : u ≠ t := by simpa using hne
    have h3 := fun w => run_typeAssert_no (P := P) hd hni hzr hne' t2 v w
    refine ⟨.tuple #[z, .bool false], by simp [execOp, h1, h3], ?_⟩
    have hzr : Reps M w av z := by
      have hL : RepsL M w (zs.map cav) zs := cavs_reps zs
      split at hz
      · rename_i q hq
        cases hz
        have := zvF_ok hq
        rw [this] at hL
        rw [← hzs] at hL
        cases z <;> first | (simp at hag; done) | (simp only [Value.cells] at hL; unfold RepsL at hL; obtain ⟨v1, vr, e1, e2, e3⟩ := hL; simp at e1; obtain ⟨rfl, rfl⟩ := e1; exact e2)
      · rename_i cs hq
        cases hz
        have := zvF_ok hq
        rw [this] at hL
        rw [← hzs] at hL
        cases z <;> first | (simp at hag; done) | (unfold Reps; exact ⟨_, rfl, hL⟩)
      · cases hz
    unfold Reps; exact ⟨_, rfl, RepsL.cons hzr (RepsL.one Reps_bool)⟩) hs h
theorem R_append_full {t e tx : TypeId} {sz by_ : Nat} {cells cells2 : List AV} {n m : Nat} {av : AV} {nx : Int} (hx : aev sl x = .sl .full cells n) (hy : aevo sl y = some av) [T : TySl P t e sz by_] (hS : SrcOk P sz tx av cells2 m) (hl : cells.length = n * sz) (hb : (n + m) * by_ ≤ 140737488355328 ∧ n + m ≤ 1000000000000) (hs : aput sl dst (.sl (.tok next (n + m) sz) (cells ++ cells2) (n + m)) = sl') (hn : next + 1 = nx) (h : AOPS P ops r sl' ⟨objs, (next, .top (n + m)) :: toks, nx⟩ Q) : AOPS P ops (⟨dst, .call { callee := .builtin .append, args := #[x, y], argTypes := #[t, tx] }, ty, pos, after, none⟩ :: r) sl ⟨objs, toks, next⟩ Q := T_append_full hx hy hS hl hb hs (by rw [hn]; exact h)
theorem R_append_nils {t e tx : TypeId} {sz by_ : Nat} {cells2 : List AV} {m : Nat} {av : AV} {nx : Int} (hx : aev sl x = .nils) (hy : aevo sl y = some av) [T : TySl P t e sz by_] (hS : SrcOk P sz tx av cells2 m) (hb : m * by_ ≤ 140737488355328 ∧ m ≤ 1000000000000) (hs : aput sl dst (.sl (.tok next m sz) cells2 m) = sl') (hn : next + 1 = nx) (h : AOPS P ops r sl' ⟨objs, (next, .top m) :: toks, nx⟩ Q) : AOPS P ops (⟨dst, .call { callee := .builtin .append, args := #[x, y], argTypes := #[t, tx] }, ty, pos, after, none⟩ :: r) sl ⟨objs, toks, next⟩ Q := T_append_nils hx hy hS hb hs (by rw [hn]; exact h)
theorem S_makeFunc {f : FuncId} {first captured : List Operand} {cs fs : List AV} (h1 : argsX sl [] first = some fs) (h2 : argsX sl [] captured = some cs) (hs : aput sl dst (.fn f fs cs) = sl') (h : AOPS P ops r sl' σ Q) : AOPS P ops (⟨dst, .makeFunc (.func f) first.toArray captured.toArray, ty, pos, after, none⟩ :: r) sl σ Q := AOPS_makeFunc (by have := argsX_ok h1; simpa using this) (by have := argsX_ok h2; simpa using this) hs h
theorem TS_makeFunc {f : FuncId} {first captured : List Operand} {cs fs : List AV} (h1 : argsX sl [] first = some fs) (h2 : argsX sl [] captured = some cs) (hs : aput sl dst (.fn f fs cs) = sl') (h : ATK P ops r sl' σ Q) : ATK P ops (⟨dst, .makeFunc (.func f) first.toArray captured.toArray, ty, pos, after, none⟩ :: r) sl σ Q := ATK_makeFunc (by have := argsX_ok h1; simpa using this) (by have := argsX_ok h2; simpa using this) hs h
def repF (z : List AV) : Nat → Option (List AV)
  | 0 => some []
  | n + 1 => match repF z n with | some r => appF z r | none => none
where appF : List AV → List AV → Option (List AV)
  | [], r => some r
  | a :: q, r => match appF q r with | some s => some (a :: s) | none => none
theorem appF_ok : ∀ {a b r : List AV}, repF.appF a b = some r → a ++ b = r
  | [], b, r, h => by simp [repF.appF] at h; simp [h]
  | x :: a, b, r, h => by
    simp only [repF.appF] at h
    split at h
    · rename_i s hs; cases h; simp [appF_ok hs]
    · cases h
theorem repF_ok {zs : List Value} {z : List AV} (hz : zs.map cav = z) : ∀ {n : Nat} {r : List AV}, repF z n = some r → zerosF zs n = r
  | 0, r, h => by simp [repF] at h; subst h; rfl
  | n + 1, r, h => by
    simp only [repF] at h
    split at h
    · rename_i q hq
      rw [zerosF, hz, repF_ok hz hq]
      exact appF_ok h
    · cases h
theorem S_litN {t e : TypeId} {sz by_ : Nat} {agg : Bool} {zs : List Value} [T : TySl P t e sz by_] [Z : TyZero P e agg zs] {len : Nat} {ps : List (Nat × Operand)} {z1 c0 cells : List AV} (hz : zvF zs = some z1) (hc : repF z1 len = some c0) (hf : fillF sl (fun i => some (i * sz, sz)) c0 ps = some cells) (hzl : zs.length = sz) (hb : 0 < len ∧ len * sz ≤ 16777216) (hs : aput sl dst (.sl .full cells len) = sl') (h : AOPS P ops r sl' σ Q) : AOPS P ops (⟨dst, .buildSlice t len ps.toArray, ty, pos, after, none⟩ :: r) sl σ Q := by
  refine AOPS_buildSlice (sz := sz) rfl (cells := cells) ?_ hzl ⟨hb.2, fun h0 => by omega⟩ hs h
  have h1 := fillF_ok hf
  have hp := T.pos
  rw [← hzl, azeros_eq zs (by omega) len, repF_ok (zvF_ok hz) hc]
  rw [← hzl] at h1
  exact h1
theorem S_addL {t t' : TypeId} {m n v : Int} (hx : aev sl x = .int .i64 m) (hy : aev sl y = .int .i64 n) (hv : m + n = v) (hb : -9223372036854775808 ≤ v ∧ v ≤ 9223372036854775807) (hs : aput sl dst (.int .i64 v) = sl') (h : AOPS P ops r sl' σ Q) : AOPS P ops (⟨dst, .binOp .add t x y t', ty, pos, after, none⟩ :: r) sl σ Q := by subst hv; exact S_add hx hy hb hs h
theorem TS_addL {t t' : TypeId} {m n v : Int} (hx : aev sl x = .int .i64 m) (hy : aev sl y = .int .i64 n) (hv : m + n = v) (hb : -9223372036854775808 ≤ v ∧ v ≤ 9223372036854775807) (hs : aput sl dst (.int .i64 v) = sl') (h : ATK P ops r sl' σ Q) : ATK P ops (⟨dst, .binOp .add t x y t', ty, pos, after, none⟩ :: r) sl σ Q := by subst hv; exact TS_add hx hy hb hs h
/-! ### Bools, as far as they are known -/
theorem S_bint {op : BinOp} {t t' : TypeId} {k : IntKind} {m n : Int} {b : Bool} (hx : aev sl x = .int k m) (hy : aev sl y = .int k n) (ho : abin op k m n = some (.bool b)) (hb : b = true) (hs : aput sl dst (.bool true) = sl') (h : AOPS P ops r sl' σ Q) : AOPS P ops (⟨dst, .binOp op t x y t', ty, pos, after, none⟩ :: r) sl σ Q := AOPS_bin hx hy ho (by rw [hb]; exact hs) h
theorem S_binf {op : BinOp} {t t' : TypeId} {k : IntKind} {m n : Int} {b : Bool} (hx : aev sl x = .int k m) (hy : aev sl y = .int k n) (ho : abin op k m n = some (.bool b)) (hb : b = false) (hs : aput sl dst (.bool false) = sl') (h : AOPS P ops r sl' σ Q) : AOPS P ops (⟨dst, .binOp op t x y t', ty, pos, after, none⟩ :: r) sl σ Q := AOPS_bin hx hy ho (by rw [hb]; exact hs) h
theorem S_strt {op : BinOp} {t t' : TypeId} {a c : List UInt8} {b : Bool} (hx : aev sl x = .str a) (hy : aev sl y = .str c) (ho : astr op a c = some (.bool b)) (hb : b = true) (hs : aput sl dst (.bool true) = sl') (h : AOPS P ops r sl' σ Q) : AOPS P ops (⟨dst, .binOp op t x y t', ty, pos, after, none⟩ :: r) sl σ Q := AOPS_str hx hy ho (by rw [hb]; exact hs) h
theorem S_strf {op : BinOp} {t t' : TypeId} {a c : List UInt8} {b : Bool} (hx : aev sl x = .str a) (hy : aev sl y = .str c) (ho : astr op a c = some (.bool b)) (hb : b = false) (hs : aput sl dst (.bool false) = sl') (h : AOPS P ops r sl' σ Q) : AOPS P ops (⟨dst, .binOp op t x y t', ty, pos, after, none⟩ :: r) sl σ Q := AOPS_str hx hy ho (by rw [hb]; exact hs) h
theorem S_beqt {t t' : TypeId} {b c : Bool} (hx : aev sl x = .bool b) (hy : aev sl y = .bool c) [T : TyBool P t] (hb : (b == c) = true) (hs : aput sl dst (.bool true) = sl') (h : AOPS P ops r sl' σ Q) : AOPS P ops (⟨dst, .binOp .eql t x y t', ty, pos, after, none⟩ :: r) sl σ Q := AOPS_beq hx hy (by rw [hb]; exact hs) h
theorem S_beqf {t t' : TypeId} {b c : Bool} (hx : aev sl x = .bool b) (hy : aev sl y = .bool c) [T : TyBool P t] (hb : (b == c) = false) (hs : aput sl dst (.bool false) = sl') (h : AOPS P ops r sl' σ Q) : AOPS P ops (⟨dst, .binOp .eql t x y t', ty, pos, after, none⟩ :: r) sl σ Q := AOPS_beq hx hy (by rw [hb]; exact hs) h
theorem S_bnet {t t' : TypeId} {b c : Bool} (hx : aev sl x = .bool b) (hy : aev sl y = .bool c) [T : TyBool P t] (hb : (b != c) = true) (hs : aput sl dst (.bool true) = sl') (h : AOPS P ops r sl' σ Q) : AOPS P ops (⟨dst, .binOp .neq t x y t', ty, pos, after, none⟩ :: r) sl σ Q := AOPS_bne hx hy (by rw [hb]; exact hs) h
theorem S_bnef {t t' : TypeId} {b c : Bool} (hx : aev sl x = .bool b) (hy : aev sl y = .bool c) [T : TyBool P t] (hb : (b != c) = false) (hs : aput sl dst (.bool false) = sl') (h : AOPS P ops r sl' σ Q) : AOPS P ops (⟨dst, .binOp .neq t x y t', ty, pos, after, none⟩ :: r) sl σ Q := AOPS_bne hx hy (by rw [hb]; exact hs) h
theorem S_nott {t : TypeId} {b : Bool} (hx : aev sl x = .bool b) (hb : b = false) (hs : aput sl dst (.bool true) = sl') (h : AOPS P ops r sl' σ Q) : AOPS P ops (⟨dst, .unOp .not t x, ty, pos, after, none⟩ :: r) sl σ Q := AOPS_not hx (by rw [hb]; exact hs) h
theorem S_notf {t : TypeId} {b : Bool} (hx : aev sl x = .bool b) (hb : b = true) (hs : aput sl dst (.bool false) = sl') (h : AOPS P ops r sl' σ Q) : AOPS P ops (⟨dst, .unOp .not t x, ty, pos, after, none⟩ :: r) sl σ Q := AOPS_not hx (by rw [hb]; exact hs) h
theorem TS_bint {op : BinOp} {t t' : TypeId} {k : IntKind} {m n : Int} {b : Bool} (hx : aev sl x = .int k m) (hy : aev sl y = .int k n) (ho : abin op k m n = some (.bool b)) (hb : b = true) (hs : aput sl dst (.bool true) = sl') (h : ATK P ops r sl' σ Q) : ATK P ops (⟨dst, .binOp op t x y t', ty, pos, after, none⟩ :: r) sl σ Q := ATK_bin hx hy ho (by rw [hb]; exact hs) h
theorem TS_binf {op : BinOp} {t t' : TypeId} {k : IntKind} {m n : Int} {b : Bool} (hx : aev sl x = .int k m) (hy : aev sl y = .int k n) (ho : abin op k m n = some (.bool b)) (hb : b = false) (hs : aput sl dst (.bool false) = sl') (h : ATK P ops r sl' σ Q) : ATK P ops (⟨dst, .binOp op t x y t', ty, pos, after, none⟩ :: r) sl σ Q := ATK_bin hx hy ho (by rw [hb]; exact hs) h
theorem TS_strt {op : BinOp} {t t' : TypeId} {a c : List UInt8} {b : Bool} (hx : aev sl x = .str a) (hy : aev sl y = .str c) (ho : astr op a c = some (.bool b)) (hb : b = true) (hs : aput sl dst (.bool true) = sl') (h : ATK P ops r sl' σ Q) : ATK P ops (⟨dst, .binOp op t x y t', ty, pos, after, none⟩ :: r) sl σ Q := ATK_str hx hy ho (by rw [hb]; exact hs) h
theorem TS_strf {op : BinOp} {t t' : TypeId} {a c : List UInt8} {b : Bool} (hx : aev sl x = .str a) (hy : aev sl y = .str c) (ho : astr op a c = some (.bool b)) (hb : b = false) (hs : aput sl dst (.bool false) = sl') (h : ATK P ops r sl' σ Q) : ATK P ops (⟨dst, .binOp op t x y t', ty, pos, after, none⟩ :: r) sl σ Q := ATK_str hx hy ho (by rw [hb]; exact hs) h
theorem TS_beqt {t t' : TypeId} {b c : Bool} (hx : aev sl x = .bool b) (hy : aev sl y = .bool c) [T : TyBool P t] (hb : (b == c) = true) (hs : aput sl dst (.bool true) = sl') (h : ATK P ops r sl' σ Q) : ATK P ops (⟨dst, .binOp .eql t x y t', ty, pos, after, none⟩ :: r) sl σ Q := ATK_beq hx hy (by rw [hb]; exact hs) h
theorem TS_beqf {t t' : TypeId} {b c : Bool} (hx : aev sl x = .bool b) (hy : aev sl y = .bool c) [T : TyBool P t] (hb : (b == c) = false) (hs : aput sl dst (.bool false) = sl') (h : ATK P ops r sl' σ Q) : ATK P ops (⟨dst, .binOp .eql t x y t', ty, pos, after, none⟩ :: r) sl σ Q := ATK_beq hx hy (by rw [hb]; exact hs) h
theorem TS_bnet {t t' : TypeId} {b c : Bool} (hx : aev sl x = .bool b) (hy : aev sl y = .bool c) [T : TyBool P t] (hb : (b != c) = true) (hs : aput sl dst (.bool true) = sl') (h : ATK P ops r sl' σ Q) : ATK P ops (⟨dst, .binOp .neq t x y t', ty, pos, after, none⟩ :: r) sl σ Q := ATK_bne hx hy (by rw [hb]; exact hs) h
theorem TS_bnef {t t' : TypeId} {b c : Bool} (hx : aev sl x = .bool b) (hy : aev sl y = .bool c) [T : TyBool P t] (hb : (b != c) = false) (hs : aput sl dst (.bool false) = sl') (h : ATK P ops r sl' σ Q) : ATK P ops (⟨dst, .binOp .neq t x y t', ty, pos, after, none⟩ :: r) sl σ Q := ATK_bne hx hy (by rw [hb]; exact hs) h
theorem TS_nott {t : TypeId} {b : Bool} (hx : aev sl x = .bool b) (hb : b = false) (hs : aput sl dst (.bool true) = sl') (h : ATK P ops r sl' σ Q) : ATK P ops (⟨dst, .unOp .not t x, ty, pos, after, none⟩ :: r) sl σ Q := ATK_not hx (by rw [hb]; exact hs) h
theorem TS_notf {t : TypeId} {b : Bool} (hx : aev sl x = .bool b) (hb : b = true) (hs : aput sl dst (.bool false) = sl') (h : ATK P ops r sl' σ Q) : ATK P ops (⟨dst, .unOp .not t x, ty, pos, after, none⟩ :: r) sl σ Q := ATK_not hx (by rw [hb]; exact hs) h
/-! ### Regions that draw -/
def calmF (sl : List AV) (o : Oper) : Bool :=
  match o.op with
  | .load _ x => match aevo sl x with
    | some (.epr _ _) => true
    | _ => false
  | .convert _ _ x => match aevo sl x with
    | some (.str _) => false
    | some (.row _ _ _) => false
    | _ => true
  | .move _ | .assign _ | .pick _ _ _ | .nilCheck _ | .binOp _ _ _ _ _ | .unOp _ _ _ | .makeInterface _ _ | .makeFunc _ _ _ | .slice _ _ _ _ _ | .fieldAddr _ _ _ | .field _ _ _ | .indexAddr _ _ _ | .index _ _ _ | .extract _ _ | .typeAssert _ _ _ _ | .build _ _ => true
  | .call c => match c.callee with
    | .builtin .len => true
    | .builtin .cap => true
    | .builtin .min => true
    | .builtin .max => true
    | _ => false
  | _ => false
/-- An operation that is passed over. -/
def overF (ops : List Oper) (sl : List AV) (o : Oper) : Bool :=
  match o.guard with
  | some (j, want) => match nthO ops j with
    | some oj => match oj.dst with
      | some d => match sl[d]? with
        | some .und => true
        | _ => false
      | none => false
    | none => false
  | none => false
def pickF (sl : List AV) (all : List Oper) (listed : Array Bool) : List Oper → Nat → Option Nat
  | [], _ => none
  | o :: r, i => if (!listed.getD i true && (calmF sl o || overF all sl o) && o.after.toList.all fun e => !Region.binds .any e || listed.getD e.on false) = true then some i else pickF sl all listed r (i + 1)
theorem AANY_takeF {l : List Oper} {n n' i : Nat} {o : Oper} {listed : Array Bool} (hp : pickF sl l listed l 0 = some i) (hn : n' = n + 1) (ho : nthO l i = some o) (hs : Region.noSelect l.toArray = true) (hr : (Region.ready .any l.toArray listed).contains i = true) (hf : Region.free .any l.toArray listed i = true) (h : ATK P l.toArray [o] sl σ (AAnyQ P n l.toArray (listed.setIfInBounds i true) Q)) : AANY P n' l.toArray listed sl σ Q := AANY_take hn ho hs hr hf h
/-- All that may come up next, of the first so many. -/
def ACandsR (P : Program) (n : Nat) (ops : Array Oper) (listed : Array Bool) (sl : List AV) (σ : ASt) (Q : Exit → List AV → ASt → Prop) : Nat → Prop
  | 0 => True
  | i + 1 => ACand P n ops listed sl σ Q i ∧ ACandsR P n ops listed sl σ Q i
theorem ACandsR_nil {n : Nat} {listed : Array Bool} : ACandsR P n ops listed sl σ Q 0 := trivial
theorem ACandsR_no {n i : Nat} {listed : Array Bool} (hr : (Region.ready .any ops listed).contains i = false) (h : ACandsR P n ops listed sl σ Q i) : ACandsR P n ops listed sl σ Q (i + 1) := ⟨ACand_no hr, h⟩
theorem ACandsR_yes {l : List Oper} {n i : Nat} {o : Oper} {listed : Array Bool} (ho : nthO l i = some o) (h1 : AOPS P l.toArray [o] sl σ (AAnyQ P n l.toArray (listed.setIfInBounds i true) Q)) (h : ACandsR P n l.toArray listed sl σ Q i) : ACandsR P n l.toArray listed sl σ Q (i + 1) := ⟨ACand_yes ho h1, h⟩
theorem ACandsR_all {n : Nat} {listed : Array Bool} : ∀ {k : Nat}, ACandsR P n ops listed sl σ Q k → ∀ i, i < k → ACand P n ops listed sl σ Q i
  | 0, _, i, h => absurd h (Nat.not_lt_zero _)
  | k + 1, hc, i, h => by
    rcases Nat.lt_succ_iff_lt_or_eq.1 h with h | rfl
    · exact ACandsR_all hc.2 i h
    · exact hc.1
theorem ACands_range {n : Nat} {listed : Array Bool} : ∀ {es : List Nat}, (∀ i ∈ es, ACand P n ops listed sl σ Q i) → ACands P n ops listed sl σ Q es
  | [], _ => trivial
  | e :: es, h => ⟨h e (List.mem_cons_self ..), ACands_range fun i hi => h i (List.mem_cons_of_mem _ hi)⟩
theorem ready_lt {ops : Array Oper} {listed : Array Bool} {i : Nat} (h : i ∈ Region.ready .any ops listed) : i < ops.size := by
  unfold Region.ready at h
  simp only [List.mem_filter, List.mem_range] at h
  exact h.1
def lenF : List Oper → Option Nat
  | [] => some 0
  | _ :: r => match lenF r with | some k => some (k + 1) | none => none
theorem lenF_ok : ∀ {l : List Oper} {k : Nat}, lenF l = some k → l.length = k
  | [], k, h => by simp [lenF] at h; exact h
  | _ :: r, k, h => by
    simp only [lenF] at h
    split at h
    · rename_i q hq; cases h; simp [lenF_ok hq]
    · cases h
theorem AANY_step0 {l : List Oper} {n n' k : Nat} {listed : Array Bool} (hn : n' = n + 1) (hne : (Region.ready .any l.toArray listed).isEmpty = false) (hk : lenF l = some k) (h : ACandsR P n l.toArray listed sl σ Q k) : AANY P n' l.toArray listed sl σ Q :=
  AANY_step (Region.ready .any l.toArray listed) hn (by simp) hne (ACands_range fun i hi => ACandsR_all h i (by have := ready_lt hi; rw [← lenF_ok hk]; simpa using this))
theorem aput_ok {l r : List AV} {d : Nat} {v : AV} (h : setF l d v = some r) : aput l (some d) v = r := setF_ok h
/-! ### Regions that draw, what is listed told by a list -/
def rdyB (bs : List Bool) (o : Oper) (i : Nat) : Bool :=
  match bs.getD i true with
  | true => false
  | false => o.after.toList.all fun e => !Region.binds .any e || bs.getD e.on false
def pickR (bs : List Bool) : List Oper → Nat → Option (Nat × Oper × List Oper)
  | [], _ => none
  | o :: r, i => match rdyB bs o i with
    | true => some (i, o, r)
    | false => pickR bs r (i + 1)
def pickL (sl : List AV) (all : List Oper) (bs : List Bool) : List Oper → Nat → Option (Nat × Oper)
  | [], _ => none
  | o :: r, i => match rdyB bs o i with
    | true => match calmF sl o || overF all sl o with
      | true => some (i, o)
      | false => pickL sl all bs r (i + 1)
    | false => pickL sl all bs r (i + 1)
def setB : List Bool → Nat → Option (List Bool)
  | _ :: r, 0 => some (true :: r)
  | b :: r, i + 1 => match setB r i with
    | some q => some (b :: q)
    | none => none
  | [], _ => none
def repB : Nat → Option (List Bool)
  | 0 => some []
  | n + 1 => match repB n with
    | some q => some (false :: q)
    | none => none
theorem repB_ok : ∀ {n : Nat} {bs : List Bool}, repB n = some bs → List.replicate n false = bs
  | 0, bs, h => by simp only [repB, Option.some.injEq] at h; subst h; rfl
  | n + 1, bs, h => by
    simp only [repB] at h
    split at h
    · rename_i q hq; cases h; rw [List.replicate_succ, repB_ok hq]
    · cases h
theorem setB_ok : ∀ {bs q : List Bool} {i : Nat}, setB bs i = some q → bs.set i true = q
  | [], q, i, h => by simp [setB] at h
  | b :: r, q, 0, h => by simp only [setB, Option.some.injEq] at h; subst h; rfl
  | b :: r, q, i + 1, h => by
    simp only [setB] at h
    split at h
    · rename_i q2 hq; cases h; simp [setB_ok hq]
    · cases h
theorem mem_rdy {l : List Oper} {bs : List Bool} {i : Nat} {o : Oper} (ho : l[i]? = some o) : i ∈ Region.ready .any l.toArray bs.toArray ↔ rdyB bs o i = true := by
  have hi : i < l.length := (List.getElem?_eq_some_iff.1 ho).1
  have h1 : ∀ j d, bs.toArray.getD j d = bs.getD j d := by
    intro j d
    rw [Array.getD_eq_getD_getElem?, List.getElem?_toArray, List.getD_eq_getElem?_getD]
  have h2 : (o.after.all fun e => !Region.binds .any e || bs.toArray.getD e.on false) = (o.after.toList.all fun e => !Region.binds .any e || bs.getD e.on false) := by
    rw [← Array.all_toList]
    simp only [h1]
  unfold Region.ready rdyB
  simp only [List.mem_filter, List.mem_range, List.size_toArray, hi, true_and, List.getElem?_toArray, ho, Option.map_some, Option.getD_some, h1, h2]
  cases bs.getD i true <;> simp
theorem pickR_none : ∀ {r : List Oper} {bs : List Bool} {k : Nat}, pickR bs r k = none → ∀ j o, r[j]? = some o → rdyB bs o (k + j) = false
  | [], bs, k, _, j, o, ho => by simp at ho
  | o1 :: r, bs, k, h, j, o, ho => by
    simp only [pickR] at h
    split at h
    · cases h
    · rename_i hb
      cases j with
      | zero => simp at ho; subst ho; simpa using hb
      | succ j =>
        have := pickR_none h j o (by simpa using ho)
        rwa [show k + (j + 1) = k + 1 + j by omega]
theorem pickR_some : ∀ {r r' : List Oper} {bs : List Bool} {k i : Nat} {o : Oper}, pickR bs r k = some (i, o, r') → ∃ m, i = k + m ∧ r[m]? = some o ∧ r' = r.drop (m + 1) ∧ rdyB bs o i = true ∧ ∀ j, j < m → ∀ o', r[j]? = some o' → rdyB bs o' (k + j) = false
  | [], r', bs, k, i, o, h => by simp [pickR] at h
  | o1 :: r, r', bs, k, i, o, h => by
    simp only [pickR] at h
    split at h
    · rename_i hb
      cases h
      exact ⟨0, rfl, rfl, rfl, hb, fun j hj => absurd hj (Nat.not_lt_zero _)⟩
    · rename_i hb
      obtain ⟨m, h1, h2, h3, h4, h5⟩ := pickR_some h
      refine ⟨m + 1, by omega, by simpa using h2, by simpa using h3, h4, fun j hj o' ho' => ?_⟩
      cases j with
      | zero => simp at ho'; subst ho'; simpa using hb
      | succ j =>
        have := h5 j (by omega) o' (by simpa using ho')
        rwa [show k + (j + 1) = k + 1 + j by omega]
theorem pickL_some {sl : List AV} {all : List Oper} : ∀ {r : List Oper} {bs : List Bool} {k i : Nat} {o : Oper}, pickL sl all bs r k = some (i, o) → ∃ m, i = k + m ∧ r[m]? = some o ∧ rdyB bs o i = true
  | [], bs, k, i, o, h => by simp [pickL] at h
  | o1 :: r, bs, k, i, o, h => by
    have hrec : pickL sl all bs r (k + 1) = some (i, o) → ∃ m, i = k + m ∧ (o1 :: r)[m]? = some o ∧ rdyB bs o i = true := fun h => by
      obtain ⟨m, h1, h2, h3⟩ := pickL_some h
      exact ⟨m + 1, by omega, by simpa using h2, h3⟩
    simp only [pickL] at h
    split at h
    · rename_i hb
      split at h
      · cases h; exact ⟨0, rfl, rfl, hb⟩
      · exact hrec h
    · exact hrec h
theorem ready_nil {l : List Oper} {bs : List Bool} (hp : pickR bs l 0 = none) : Region.ready .any l.toArray bs.toArray = [] := by
  apply List.eq_nil_iff_forall_not_mem.2
  intro i hi
  have hl := ready_lt hi
  simp only [List.size_toArray] at hl
  have ho : l[i]? = some l[i] := List.getElem?_eq_getElem hl
  have h1 := (mem_rdy ho).1 hi
  have h2 := pickR_none hp i _ ho
  simp only [Nat.zero_add] at h2
  rw [h1] at h2; cases h2
theorem AWP_drawL {n id : Nat} {l : List Oper} {bs : List Bool} (hm : P.follows .mixedOrders = true) (hn : lenF l = some n) (hb : repB n = some bs) (h : AANY P n l.toArray bs.toArray sl σ Q) : AWP P (.region id l.toArray true) sl σ Q :=
  AWP_draw hm (by simpa using lenF_ok hn) (by rw [← repB_ok hb] at h; simpa using h)
theorem AANY_doneL {l : List Oper} {n : Nat} {bs : List Bool} (hp : pickR bs l 0 = none) (h : Q .normal sl σ) : AANY P n l.toArray bs.toArray sl σ Q := AANY_done (ready_nil hp) h
theorem AANY_takeL {l : List Oper} {n n' i : Nat} {o : Oper} {bs bs' : List Bool} (hp : pickL sl l bs l 0 = some (i, o)) (hn : n' = n + 1) (hb : setB bs i = some bs') (hs : Region.noSelect l.toArray = true) (hf : Region.free .any l.toArray bs.toArray i = true) (h : ATK P l.toArray [o] sl σ (AAnyQ P n l.toArray bs'.toArray Q)) : AANY P n' l.toArray bs.toArray sl σ Q := by
  obtain ⟨m, h1, h2, h3⟩ := pickL_some hp
  rw [Nat.zero_add] at h1; subst h1
  refine AANY_take hn (by rw [nthO_eq]; simpa using h2) hs ?_ hf ?_
  · simpa using (mem_rdy h2).2 h3
  · rw [List.setIfInBounds_toArray, setB_ok hb]; exact h
/-- All that may come up next, from a place on. -/
def ACandsL (P : Program) (n : Nat) (l : List Oper) (bs : List Bool) (sl : List AV) (σ : ASt) (Q : Exit → List AV → ASt → Prop) (r : List Oper) (k : Nat) : Prop :=
  r = l.drop k → ∀ j, k ≤ j → ACand P n l.toArray bs.toArray sl σ Q j
theorem ACandsL_nil {l r : List Oper} {n k : Nat} {bs : List Bool} (hp : pickR bs r k = none) : ACandsL P n l bs sl σ Q r k := by
  intro hr j hj hi
  have hl := ready_lt hi
  simp only [List.size_toArray] at hl
  have ho : l[j]? = some l[j] := List.getElem?_eq_getElem hl
  have h1 := (mem_rdy ho).1 hi
  have h2 := pickR_none hp (j - k) l[j] (by rw [hr, List.getElem?_drop, show k + (j - k) = j by omega]; exact ho)
  rw [show k + (j - k) = j by omega, h1] at h2; cases h2
theorem ACandsL_yes {l r r' : List Oper} {n k i : Nat} {o : Oper} {bs bs' : List Bool} (hp : pickR bs r k = some (i, o, r')) (hb : setB bs i = some bs') (h1 : AOPS P l.toArray [o] sl σ (AAnyQ P n l.toArray bs'.toArray Q)) (h : ACandsL P n l bs sl σ Q r' (i + 1)) : ACandsL P n l bs sl σ Q r k := by
  intro hr j hj
  obtain ⟨m, e1, e2, e3, e4, e5⟩ := pickR_some hp
  subst hr
  rw [List.getElem?_drop, ← e1] at e2
  by_cases hji : j = i
  · subst hji
    refine ACand_yes (by rw [nthO_eq]; simpa using e2) ?_
    rw [List.setIfInBounds_toArray, setB_ok hb]; exact h1
  · by_cases hlt : j < i
    · intro hi
      have hl := ready_lt hi
      simp only [List.size_toArray] at hl
      have ho : l[j]? = some l[j] := List.getElem?_eq_getElem hl
      have q1 := (mem_rdy ho).1 hi
      have q2 := e5 (j - k) (by omega) l[j] (by rw [List.getElem?_drop, show k + (j - k) = j by omega]; exact ho)
      rw [show k + (j - k) = j by omega, q1] at q2; cases q2
    · exact h (by rw [e3, List.drop_drop]; congr 1; omega) j (by omega)
theorem AANY_stepL {l r : List Oper} {n n' i : Nat} {o : Oper} {bs bs' : List Bool} (hn : n' = n + 1) (hp : pickR bs l 0 = some (i, o, r)) (hb : setB bs i = some bs') (h1 : AOPS P l.toArray [o] sl σ (AAnyQ P n l.toArray bs'.toArray Q)) (h : ACandsL P n l bs sl σ Q r (i + 1)) : AANY P n' l.toArray bs.toArray sl σ Q := by
  have hc : ACandsL P n l bs sl σ Q l 0 := ACandsL_yes hp hb h1 h
  obtain ⟨m, e1, e2, _, e4, _⟩ := pickR_some hp
  rw [Nat.zero_add] at e1; subst e1
  have hm := (mem_rdy e2).2 e4
  refine AANY_step (Region.ready .any l.toArray bs.toArray) hn (by simp) ?_ (ACands_range fun j hj => hc rfl j (Nat.zero_le j))
  cases hq : Region.ready .any l.toArray bs.toArray with
  | nil => rw [hq] at hm; cases hm
  | cons => rfl
theorem S_slice8_lhI {t e : TypeId} {by_ : Nat} {own : AOwn} {l : List UInt8} {n : Nat} {k k' : IntKind} {i j : Int} (hx : aev sl x = .sl own (l.map bvA) n) [T : TySl P t e 1 by_] (hy : aev sl y = .int k i) (hz : aev sl z = .int k' j) (hlm : 0 ≤ i ∧ i ≤ j ∧ j ≤ n) (hs : aput sl dst (.sl .none (((l.drop i.toNat).take (j.toNat - i.toNat)).map bvA) (j.toNat - i.toNat)) = sl') (h : AOPS P ops r sl' σ Q) : AOPS P ops (⟨dst, .slice t x (some y) (some z) none, ty, pos, after, none⟩ :: r) sl σ Q := S_slice8_lh hx hy hz (by omega) (by omega) (by omega) hs h
theorem S_slice8_hI {t e : TypeId} {by_ : Nat} {own : AOwn} {l : List UInt8} {n : Nat} {k' : IntKind} {j : Int} (hx : aev sl x = .sl own (l.map bvA) n) [T : TySl P t e 1 by_] (hz : aev sl z = .int k' j) (hlm : 0 ≤ j ∧ j ≤ n) (hs : aput sl dst (.sl .none ((l.take j.toNat).map bvA) j.toNat) = sl') (h : AOPS P ops r sl' σ Q) : AOPS P ops (⟨dst, .slice t x none (some z) none, ty, pos, after, none⟩ :: r) sl σ Q := S_slice8_h hx hz (by omega) (by omega) hs h
theorem S_slice8_lI {t e : TypeId} {by_ : Nat} {own : AOwn} {l : List UInt8} {n : Nat} {k : IntKind} {i : Int} (hx : aev sl x = .sl own (l.map bvA) n) [T : TySl P t e 1 by_] (hy : aev sl y = .int k i) (hlm : 0 ≤ i ∧ i ≤ n) (hs : aput sl dst (.sl .none (((l.drop i.toNat).take (n - i.toNat)).map bvA) (n - i.toNat)) = sl') (h : AOPS P ops r sl' σ Q) : AOPS P ops (⟨dst, .slice t x (some y) none none, ty, pos, after, none⟩ :: r) sl σ Q := S_slice8_l hx hy (by omega) (by omega) hs h
theorem TS_slice8_lhI {t e : TypeId} {by_ : Nat} {own : AOwn} {l : List UInt8} {n : Nat} {k k' : IntKind} {i j : Int} (hx : aev sl x = .sl own (l.map bvA) n) [T : TySl P t e 1 by_] (hy : aev sl y = .int k i) (hz : aev sl z = .int k' j) (hlm : 0 ≤ i ∧ i ≤ j ∧ j ≤ n) (hs : aput sl dst (.sl .none (((l.drop i.toNat).take (j.toNat - i.toNat)).map bvA) (j.toNat - i.toNat)) = sl') (h : ATK P ops r sl' σ Q) : ATK P ops (⟨dst, .slice t x (some y) (some z) none, ty, pos, after, none⟩ :: r) sl σ Q := TS_slice8_lh hx hy hz (by omega) (by omega) (by omega) hs h
theorem TS_slice8_hI {t e : TypeId} {by_ : Nat} {own : AOwn} {l : List UInt8} {n : Nat} {k' : IntKind} {j : Int} (hx : aev sl x = .sl own (l.map bvA) n) [T : TySl P t e 1 by_] (hz : aev sl z = .int k' j) (hlm : 0 ≤ j ∧ j ≤ n) (hs : aput sl dst (.sl .none ((l.take j.toNat).map bvA) j.toNat) = sl') (h : ATK P ops r sl' σ Q) : ATK P ops (⟨dst, .slice t x none (some z) none, ty, pos, after, none⟩ :: r) sl σ Q := TS_slice8_h hx hz (by omega) (by omega) hs h
theorem TS_slice8_lI {t e : TypeId} {by_ : Nat} {own : AOwn} {l : List UInt8} {n : Nat} {k : IntKind} {i : Int} (hx : aev sl x = .sl own (l.map bvA) n) [T : TySl P t e 1 by_] (hy : aev sl y = .int k i) (hlm : 0 ≤ i ∧ i ≤ n) (hs : aput sl dst (.sl .none (((l.drop i.toNat).take (n - i.toNat)).map bvA) (n - i.toNat)) = sl') (h : ATK P ops r sl' σ Q) : ATK P ops (⟨dst, .slice t x (some y) none none, ty, pos, after, none⟩ :: r) sl σ Q := TS_slice8_l hx hy (by omega) (by omega) hs h
theorem S_buildArr {t e : TypeId} {n sz : Nat} {agg agg2 : Bool} {zs : List Value} {ps : List (Nat × Operand)} {cells zc : List AV} [T : TyArr P t n e] [V : TyVar P e agg2 sz] [Z : TyZero P t agg zs] (hz : zvF zs = some zc) (hf : fillF sl (fun i => some (i * sz, sz)) zc ps = some cells) (hs : aput sl dst (.agg cells) = sl') (h : AOPS P ops r sl' σ Q) : AOPS P ops (⟨dst, .build t ps.toArray, ty, pos, after, none⟩ :: r) sl σ Q :=
  AOPS_pure (av := .agg cells) rfl (fun M a w hr => by
    obtain ⟨i, z, k1, k2, hzs, _⟩ := Z.zero
    have hz' : ∀ w : World, (zeroValue t).run P w = .ok z w := fun w => by simp [zeroValue, typeInfo, k1, k2]
    have h0 : RepsL M w zc z.cells.toList := by rw [hzs, ← zvF_ok hz]; exact cavs_reps zs
    obtain ⟨vs', h3, h4⟩ := afill_ok (vs := z.cells) h0 (aparts_ok hr ps) (fillF_ok hf)
    refine ⟨.agg vs', fun w' L => ?_, by unfold Reps; exact ⟨_, rfl, h4⟩⟩
    have h5 := V.sizeOf w'
    have h3' : Instr.fill (fun i => some (i * sz, sz)) z.cells (ps.map fun p => (p.1, a.eval p.2)) = some vs' := h3
    simp only [execOp, Instr.build, Sem.run_bind, hz', Result.andThen_ok, run_underlying T.und, h5, List.map_toArray]
    rw [h3']
    rfl) hs h
theorem TS_buildArr {t e : TypeId} {n sz : Nat} {agg agg2 : Bool} {zs : List Value} {ps : List (Nat × Operand)} {cells zc : List AV} [T : TyArr P t n e] [V : TyVar P e agg2 sz] [Z : TyZero P t agg zs] (hz : zvF zs = some zc) (hf : fillF sl (fun i => some (i * sz, sz)) zc ps = some cells) (hs : aput sl dst (.agg cells) = sl') (h : ATK P ops r sl' σ Q) : ATK P ops (⟨dst, .build t ps.toArray, ty, pos, after, none⟩ :: r) sl σ Q :=
  ATK_pure (av := .agg cells) rfl (fun M a w hr => by
    obtain ⟨i, z, k1, k2, hzs, _⟩ := Z.zero
    have hz' : ∀ w : World, (zeroValue t).run P w = .ok z w := fun w => by simp [zeroValue, typeInfo, k1, k2]
    have h0 : RepsL M w zc z.cells.toList := by rw [hzs, ← zvF_ok hz]; exact cavs_reps zs
    obtain ⟨vs', h3, h4⟩ := afill_ok (vs := z.cells) h0 (aparts_ok hr ps) (fillF_ok hf)
    refine ⟨.agg vs', fun w' L => ?_, by unfold Reps; exact ⟨_, rfl, h4⟩⟩
    have h5 := V.sizeOf w'
    have h3' : Instr.fill (fun i => some (i * sz, sz)) z.cells (ps.map fun p => (p.1, a.eval p.2)) = some vs' := h3
    simp only [execOp, Instr.build, Sem.run_bind, hz', Result.andThen_ok, run_underlying T.und, h5, List.map_toArray]
    rw [h3']
    rfl) hs h
/-! ### Loops whose rounds make things that are forgotten -/
/-- As AWP_loopS; at a round's end a part of the store may be forgotten. -/
def ALoopW (sl0 : List AV) (ix : List Nat) {N : Type} (vs : N → List AV) (st : N → ASt) (inv : N → Prop) (μ : N → Nat) (m : Nat) (Q : Exit → List AV → ASt → Prop) : Exit → List AV → ASt → Prop
  | .normal, sl, σ => ∃ n, setsF sl0 ix (vs n) = some sl ∧ ASub (st n) σ ∧ inv n ∧ μ n < m
  | e, sl, σ => Q e sl σ
theorem ALoopW_normal {sl0 : List AV} {ix : List Nat} {N : Type} {vs : N → List AV} {st : N → ASt} {inv : N → Prop} {μ : N → Nat} {m : Nat} (n : N) (h1 : setsF sl0 ix (vs n) = some sl) (h2 : ASub (st n) σ) (h3 : inv n) (h4 : μ n < m) : ALoopW sl0 ix vs st inv μ m Q .normal sl σ := ⟨n, h1, h2, h3, h4⟩
theorem ALoopW_ret {sl0 : List AV} {ix : List Nat} {N : Type} {vs : N → List AV} {st : N → ASt} {inv : N → Prop} {μ : N → Nat} {m : Nat} (h : Q .ret sl σ) : ALoopW sl0 ix vs st inv μ m Q .ret sl σ := h
theorem ALoopW_exit {sl0 : List AV} {ix : List Nat} {N : Type} {vs : N → List AV} {st : N → ASt} {inv : N → Prop} {μ : N → Nat} {m i : Nat} (h : Q (.exit i) sl σ) : ALoopW sl0 ix vs st inv μ m Q (.exit i) sl σ := h
theorem ALoopW_goto {sl0 : List AV} {ix : List Nat} {N : Type} {vs : N → List AV} {st : N → ASt} {inv : N → Prop} {μ : N → Nat} {m i : Nat} (h : Q (.goto i) sl σ) : ALoopW sl0 ix vs st inv μ m Q (.goto i) sl σ := h
theorem ARounds_sub {c : Code} {σ1 : ASt} (hs : ASub σ1 σ) : ∀ {n : Nat}, ARounds P c Q n sl σ1 → ARounds P c Q n sl σ
  | 0, h => h
  | n + 1, h => fun base Fi M0 w0 M a w hst hr => h base Fi M0 w0 M a w hst ⟨hr.1, hr.2.1, hr.2.2.sub hs⟩
theorem AWP_loopW {c : Code} {sl0 : List AV} (ix : List Nat) {N : Type} (vs : N → List AV) (st : N → ASt) (inv : N → Prop) (μ : N → Nat) (n0 : N) (h0 : setsF sl0 ix (vs n0) = some sl0) (hst : ASub (st n0) σ) (hi : inv n0)
    (round : ∀ n sl', setsF sl0 ix (vs n) = some sl' → inv n → AWP P c sl' (st n) (ALoopW sl0 ix vs st inv μ (μ n) Q)) : AWP P (.loop c) sl0 σ Q := by
  have mono : ∀ k j, k ≤ j → ∀ sl σ, ARounds P c Q k sl σ → ARounds P c Q j sl σ := by
    intro k
    induction k with
    | zero => intro j _ sl σ h; exact h.elim
    | succ k ihk =>
      intro j hj sl σ h
      obtain ⟨j, rfl⟩ : ∃ i, j = i + 1 := ⟨j - 1, by omega⟩
      intro base Fi M0 w0 M a w hst hr
      refine wp_mono (h base Fi M0 w0 M a w hst hr) ?_
      rintro e a' w' ⟨sl3, σ3, M3, hq3, hr3, hs3⟩
      refine ⟨sl3, σ3, M3, ?_, hr3, hs3⟩
      cases e with
      | normal => exact ihk j (by omega) sl3 σ3 hq3
      | _ => exact hq3
  have key : ∀ m n sl', μ n = m → setsF sl0 ix (vs n) = some sl' → inv n → ARounds P c Q (m + 1) sl' (st n) := by
    intro m
    induction m using Nat.strongRecOn with
    | _ m ih =>
      intro n sl' hm hs hi
      have hw := round n sl' hs hi
      intro base Fi M0 w0 M a w hst hr
      refine wp_mono (hw base Fi M0 w0 M a w hst hr) ?_
      rintro e a' w' ⟨sl2, σ2, M', hq, hr', hs'⟩
      refine ⟨sl2, σ2, M', ?_, hr', hs'⟩
      cases e with
      | normal =>
        obtain ⟨n', h1, h2, h3, h4⟩ := hq
        have h5 := ih (μ n') (by omega) n' sl2 rfl h1 h3
        exact ARounds_sub h2 (mono (μ n' + 1) m (by omega) sl2 _ h5)
      | _ => exact hq
  exact AWP_loop_n (μ n0 + 1) (ARounds_sub hst (key _ n0 sl0 rfl h0 hi))
theorem ASub.refl (σ : ASt) : ASub σ σ := ⟨fun _ _ h => h, fun _ _ h => h, Int.le_refl _⟩
theorem ASub.drop {id : Int} {c : List AV} {σ1 : ASt} {objs : List (Int × List AV)} {toks : List (Int × Tq)} {next : Int} (h : ASub σ1 ⟨objs, toks, next⟩) (hn : alook objs id = none) : ASub σ1 ⟨(id, c) :: objs, toks, next⟩ := by
  refine ⟨fun i cs hl => ?_, h.toks, h.next⟩
  have := h.objs i cs hl
  simp only [alook]
  rw [if_neg]
  · exact this
  · rintro rfl
    have h2 : alook objs id = some cs := this
    rw [hn] at h2; cases h2
theorem ASub.dropt {id : Int} {c : Tq} {σ1 : ASt} {objs : List (Int × List AV)} {toks : List (Int × Tq)} {next : Int} (h : ASub σ1 ⟨objs, toks, next⟩) (hn : alook toks id = none) : ASub σ1 ⟨objs, (id, c) :: toks, next⟩ := by
  refine ⟨h.objs, fun i cs hl => ?_, h.next⟩
  have := h.toks i cs hl
  simp only [alook]
  rw [if_neg]
  · exact this
  · rintro rfl
    have h2 : alook toks id = some cs := this
    rw [hn] at h2; cases h2
/-! ### Regions that draw, and turn nothing -/
/-- An operation that turns nothing, and yields this at this store. -/
def ARunAt (P : Program) (o : Oper) (sl : List AV) (σ : ASt) (av : AV) : Prop := ∀ base Fi (M : MM) (a : Act) (w : World), Rel base Fi M a w sl σ → ∃ v, (execOp a.eval o).run P w = .ok (.value v) w ∧ Reps M w av v
def ATL (P : Program) (ops : Array Oper) : List Oper → List AV → ASt → (Exit → List AV → ASt → Prop) → Prop
  | [], sl, σ, Q => Q .normal sl σ
  | o :: r, sl, σ, Q => ∃ av, ((AWant ops o sl = some true ∧ ARunAt P o sl σ av) ∨ (AWant ops o sl = some false ∧ av = .und)) ∧ ATL P ops r (aput sl o.dst av) σ Q
theorem ATL_nil (h : Q .normal sl σ) : ATL P ops [] sl σ Q := h
theorem ATL_of : ∀ {l : List Oper} {sl : List AV}, ATK P ops l sl σ Q → ATL P ops l sl σ Q
  | [], _, h => h
  | o :: r, sl, ⟨av, h1, h2⟩ => ⟨av, h1.imp (fun ⟨a, b⟩ => ⟨a, fun base Fi M a w hr => let ⟨v, k1, k2⟩ := b M a w hr.2.1; ⟨v, k1 w (Later.refl M w), k2⟩⟩) id, ATL_of h2⟩
theorem ATL_guard_no {op : Op} {j : Nat} {want b : Bool} (hy : ayield ops sl j = some b) (hb : b = !want) (hs : aput sl dst .und = sl') (h : ATL P ops r sl' σ Q) : ATL P ops (⟨dst, op, ty, pos, after, some (j, want)⟩ :: r) sl σ Q := by
  refine ⟨.und, .inr ⟨?_, rfl⟩, by rw [hs]; exact h⟩
  unfold ayield at hy
  split at hy
  · rename_i b' hb'; cases hy; simp only [AWant, hb']; rw [hb]; cases want <;> rfl
  · cases hy
theorem ATL_guard_und {op : Op} {j : Nat} {want : Bool} (hy : ((ops[j]?).bind (·.dst)).map (fun d => sl.getD d .any) = some .und) (hs : aput sl dst .und = sl') (h : ATL P ops r sl' σ Q) : ATL P ops (⟨dst, op, ty, pos, after, some (j, want)⟩ :: r) sl σ Q :=
  ⟨.und, .inr ⟨by simp only [AWant, hy], rfl⟩, by rw [hs]; exact h⟩
theorem ATL_guard_yes {op : Op} {j : Nat} {want b : Bool} (hy : ayield ops sl j = some b) (hb : b = want) (h : ATL P ops (⟨dst, op, ty, pos, after, none⟩ :: r) sl σ Q) : ATL P ops (⟨dst, op, ty, pos, after, some (j, want)⟩ :: r) sl σ Q := by
  obtain ⟨av, h1, h2⟩ := h
  refine ⟨av, .inl ⟨?_, ?_⟩, h2⟩
  · unfold ayield at hy
    split at hy
    · rename_i b' hb'; cases hy; simp only [AWant, hb']; rw [hb]; cases want <;> rfl
    · cases hy
  · rcases h1 with h1 | h1
    · exact h1.2
    · exact absurd h1.1 (by simp [AWant])
theorem ATL_load {t : TypeId} {agg : Bool} {sz off : Nat} {id : Int} {cells : List AV} {av : AV} (hx : aev sl x = .ptr id off) [T : TyVar P t agg sz] (ho : alook σ.objs id = some cells) (hp : aload agg sz cells off = some av) (hs : aput sl dst av = sl') (h : ATL P ops r sl' σ Q) : ATL P ops (⟨dst, .load t x, ty, pos, after, none⟩ :: r) sl σ Q :=
  ⟨av, .inl ⟨by simp [AWant], fun base Fi M a w hr => by
    have h1 := ev1 hr.2.1 hx
    unfold Reps at h1
    obtain ⟨b, h0, h1⟩ := h1
    obtain ⟨_, b', vs, e, h2, _, h4, h5⟩ := hr.2.2.obs id cells ho
    rw [h0] at h2; cases h2
    obtain ⟨v, h6, h7⟩ := loadVar_ok (b := b) (o := 0) (L := fun w' => w' = w) T h5 (fun w' hw j u hu => by subst hw; rw [cell_of_row w' _ _ _ _ _ h4]; simpa using hu) hp
    replace h6 := h6 w rfl
    rw [Nat.zero_add] at h6
    exact ⟨v, by simp [execOp, h1, Instr.loadAt, Instr.sureAddr, h6], h7⟩⟩, by rw [hs]; exact h⟩
theorem L_load {t : TypeId} {sz off : Nat} {id : Int} {cells : List AV} {av : AV} (hx : aev sl x = .ptr id off) [T : TyVar P t false sz] (ho : alook objs id = some cells) (hp : cells[off]? = some av) (hs : aput sl dst av = sl') (h : ATL P ops r sl' ⟨objs, toks, next⟩ Q) : ATL P ops (⟨dst, .load t x, ty, pos, after, none⟩ :: r) sl ⟨objs, toks, next⟩ Q := ATL_load hx ho (by simp [aload, hp]) hs h
theorem L_load_agg {t : TypeId} {sz off : Nat} {id : Int} {cells cs : List AV} (hx : aev sl x = .ptr id off) [T : TyVar P t true sz] (ho : alook objs id = some cells) (hp : subF off sz cells = some cs) (hs : aput sl dst (.agg cs) = sl') (h : ATL P ops r sl' ⟨objs, toks, next⟩ Q) : ATL P ops (⟨dst, .load t x, ty, pos, after, none⟩ :: r) sl ⟨objs, toks, next⟩ Q := by
  obtain ⟨h1, h2⟩ := subF_ok hp
  exact ATL_load hx ho (by simp only [aload, if_true]; rw [if_pos h2, h1]) hs h
theorem L_load_all {t : TypeId} {sz : Nat} {id : Int} {cells : List AV} (hx : aev sl x = .ptr id 0) [T : TyVar P t true sz] (ho : alook objs id = some cells) (hp : cells.length = sz) (hs : aput sl dst (.agg cells) = sl') (h : ATL P ops r sl' ⟨objs, toks, next⟩ Q) : ATL P ops (⟨dst, .load t x, ty, pos, after, none⟩ :: r) sl ⟨objs, toks, next⟩ Q :=
  ATL_load hx ho (by simp [aload, ← hp]) hs h
/-- What is left of such a region. -/
def AANYp (P : Program) (n : Nat) (ops : Array Oper) (listed : Array Bool) (sl : List AV) (σ : ASt) (Q : Exit → List AV → ASt → Prop) : Prop :=
  ∀ base Fi M0 w0 M a w, Stp base Fi M0 w0 M w → Rel base Fi M a w sl σ → wpAnyH P .any ops (Lift (NoP Q) base Fi M0 w0) (fun w' => w' = w) n listed a w
def AAnyQp (P : Program) (n : Nat) (ops : Array Oper) (listed : Array Bool) (Q : Exit → List AV → ASt → Prop) : Exit → List AV → ASt → Prop
  | .normal, sl, σ => AANYp P n ops listed sl σ Q
  | _, _, _ => False
theorem AAnyQp_normal {n : Nat} {listed : Array Bool} (h : AANYp P n ops listed sl σ Q) : AAnyQp P n ops listed Q .normal sl σ := h
theorem AANYp_done {n : Nat} {listed : Array Bool} (hr : Region.ready .any ops listed = []) (h : Q .normal sl σ) : AANYp P n ops listed sl σ Q :=
  fun base Fi M0 w0 M a w hst hrel => wpAnyH_done hr ⟨sl, σ, M, h, hrel, hst⟩ n
def pickP (listed : Array Bool) : List Oper → Nat → Option Nat
  | [], _ => none
  | o :: r, i => if (!listed.getD i true && o.after.toList.all fun e => !Region.binds .any e || listed.getD e.on false) = true then some i else pickP listed r (i + 1)
theorem AANYp_take {l : List Oper} {n n' i : Nat} {o : Oper} {listed : Array Bool} (hp : pickP listed l 0 = some i) (hn : n' = n + 1) (ho : nthO l i = some o) (hs : Region.noSelect l.toArray = true) (hr : (Region.ready .any l.toArray listed).contains i = true) (hf : Region.free .any l.toArray listed i = true) (h : ATL P l.toArray [o] sl σ (AAnyQp P n l.toArray (listed.setIfInBounds i true) Q)) : AANYp P n' l.toArray listed sl σ Q := by
  subst hn
  intro base Fi M0 w0 M a w hst hrel
  obtain ⟨av, h1, h2⟩ := h
  rw [nthO_eq] at ho
  have key : ∃ v, YieldsIf P l.toArray (fun w' => w' = w) o v a ∧ Reps M w av v := by
    rcases h1 with ⟨hw, hrun⟩ | ⟨hw, rfl⟩
    · obtain ⟨v, h3, h4⟩ := hrun base Fi M a w hrel
      exact ⟨v, .inl ⟨AWant_ok hrel.2.1 hw, fun w' hw' => by subst hw'; exact h3⟩, h4⟩
    · exact ⟨undef, .inr ⟨AWant_ok hrel.2.1 hw, rfl⟩, by unfold Reps; rfl⟩
  obtain ⟨v, hy, hv⟩ := key
  refine wpAnyH_take ho hs hf hr ?_ hy rfl (h2 base Fi M0 w0 M _ w hst ⟨?_, ?_, hrel.2.2⟩)
  · rintro c a w ⟨_, _, _, hF, _⟩
    exact hF.elim
  · cases o.dst <;> exact hrel.1
  · exact aput_reps hrel.2.1 o.dst hv
/-- No operation of it turns anything. -/
def calmR : List Oper → Bool
  | [] => true
  | o :: r => (match o.op with
    | .load _ _ | .move _ | .assign _ | .pick _ _ _ | .nilCheck _ | .binOp _ _ _ _ _ | .unOp _ _ _ | .convert _ _ _ | .makeInterface _ _ | .makeFunc _ _ _ | .slice _ _ _ _ _ | .fieldAddr _ _ _ | .field _ _ _ | .indexAddr _ _ _ | .index _ _ _ | .extract _ _ | .typeAssert _ _ _ _ | .build _ _ => true
    | .call c => (match c.callee with
      | .builtin .len => true
      | .builtin .cap => true
      | .builtin .min => true
      | .builtin .max => true
      | _ => false)
    | _ => false) && calmR r
theorem AWP_drawp {n id : Nat} {l : List Oper} (hcalm : calmR l = true) (hm : P.follows .mixedOrders = true) (hn : l.toArray.size = n) (h : AANYp P n l.toArray (Array.replicate n false) sl σ Q) : AWP P (.region id l.toArray true) sl σ Q := by
  intro base Fi M0 w0 M a w hst hrel
  have G : Grew w { w with drawn := w.drawn + 1 } := ⟨rfl, rfl, rfl, Nat.le_refl _, fun _ _ => rfl⟩
  have S := G.stp hrel.2.2
  refine Code.wp_mono (fun e a w q => ?_) (wp_region_held (S := fun w' => w' = { w with drawn := w.drawn + 1 }) hm (by rw [hn]; exact h base Fi M0 w0 M a _ (hst.trans S) ⟨hrel.1, RepsL.stp S _ _ hrel.2.1, G.st hrel.2.2⟩))
  obtain ⟨sl', σ', M', q1, q2, q3⟩ := q
  exact ⟨sl', σ', M', q1.of, q2, q3⟩
theorem AWP_drawpL {n id : Nat} {l : List Oper} {bs : List Bool} (hcalm : calmR l = true) (hm : P.follows .mixedOrders = true) (hn : lenF l = some n) (hb : repB n = some bs) (h : AANYp P n l.toArray bs.toArray sl σ Q) : AWP P (.region id l.toArray true) sl σ Q :=
  AWP_drawp hcalm hm (by simpa using lenF_ok hn) (by rw [← repB_ok hb] at h; simpa using h)
theorem AANYp_doneL {l : List Oper} {n : Nat} {bs : List Bool} (hp : pickR bs l 0 = none) (h : Q .normal sl σ) : AANYp P n l.toArray bs.toArray sl σ Q := AANYp_done (ready_nil hp) h
theorem pickP_of {bs : List Bool} : ∀ {r r' : List Oper} {k i : Nat} {o : Oper}, pickR bs r k = some (i, o, r') → pickP bs.toArray r k = some i
  | [], r', k, i, o, h => by simp [pickR] at h
  | o1 :: r, r', k, i, o, h => by
    have h1 : ∀ j d, bs.toArray.getD j d = bs.getD j d := by
      intro j d
      rw [Array.getD_eq_getD_getElem?, List.getElem?_toArray, List.getD_eq_getElem?_getD]
    simp only [pickR] at h
    simp only [pickP, h1]
    unfold rdyB at h
    cases hg : bs.getD k true with
    | true => simp only [hg] at h; simp only [Bool.not_true, Bool.false_and, Bool.false_eq_true, if_false]; exact pickP_of h
    | false =>
      simp only [hg] at h
      simp only [Bool.not_false, Bool.true_and]
      split at h
      · rename_i hb; cases h; rw [if_pos hb]
      · rename_i hb; rw [if_neg (by rw [hb]; exact Bool.false_ne_true)]; exact pickP_of h
theorem AANYp_takeL {l r : List Oper} {n n' i : Nat} {o : Oper} {bs bs' : List Bool} (hp : pickR bs l 0 = some (i, o, r)) (hn : n' = n + 1) (hb : setB bs i = some bs') (hs : Region.noSelect l.toArray = true) (hf : Region.free .any l.toArray bs.toArray i = true) (h : ATL P l.toArray [o] sl σ (AAnyQp P n l.toArray bs'.toArray Q)) : AANYp P n' l.toArray bs.toArray sl σ Q := by
  obtain ⟨m, h1, h2, _, h3, _⟩ := pickR_some hp
  rw [Nat.zero_add] at h1; subst h1
  refine AANYp_take (pickP_of hp) hn (by rw [nthO_eq]; simpa using h2) hs ?_ hf ?_
  · simpa using (mem_rdy h2).2 h3
  · rw [List.setIfInBounds_toArray, setB_ok hb]; exact h
theorem true_eq_dec {p : Prop} {i : Decidable p} : (true = decide p) = p := by by_cases h : p <;> simp [h]
theorem false_eq_dec {p : Prop} {i : Decidable p} : (false = decide p) = ¬p := by by_cases h : p <;> simp [h]
/-! ### Both ways -/
def Split : Prop := True
theorem Split.ok : Split := trivial
theorem Split.use (h : Split) {p : Prop} (g : p) : p := g
theorem S_split {op : BinOp} {t t' : TypeId} {k : IntKind} {m n : Int} {b : Bool} {sl1 sl2 : List AV} (hx : aev sl x = .int k m) (hy : aev sl y = .int k n) (ho : abin op k m n = some (.bool b)) (hs1 : aput sl dst (.bool true) = sl1) (hs2 : aput sl dst (.bool false) = sl2) (h1 : b = true → AOPS P ops r sl1 σ Q) (h2 : b = false → AOPS P ops r sl2 σ Q) : AOPS P ops (⟨dst, .binOp op t x y t', ty, pos, after, none⟩ :: r) sl σ Q := by
  cases hb : b with
  | true => exact S_bint hx hy ho hb hs1 (h1 hb)
  | false => exact S_binf hx hy ho hb hs2 (h2 hb)
theorem S_splitT {op : BinOp} {t t' : TypeId} {k : IntKind} {m n : Int} {b : Bool} {sl1 sl2 : List AV} (hx : aev sl x = .int k m) (hy : aev sl y = .int k n) (ho : abin op k m n = some (.bool b)) (hs1 : aput sl dst (.bool true) = sl1) (hs2 : aput sl dst (.bool false) = sl2) (h1 : b = true → ATK P ops r sl1 σ Q) (h2 : b = false → ATK P ops r sl2 σ Q) : ATK P ops (⟨dst, .binOp op t x y t', ty, pos, after, none⟩ :: r) sl σ Q := by
  cases hb : b with
  | true => exact TS_bint hx hy ho hb hs1 (h1 hb)
  | false => exact TS_binf hx hy ho hb hs2 (h2 hb)
theorem S_splitc {t : TypeId} {bv : Bool} {sl1 sl2 : List AV} (hx : aev sl x = .bool bv) (hs1 : aput sl dst (.bool false) = sl1) (hs2 : aput sl dst (.bool true) = sl2) (h1 : bv = true → AOPS P ops r sl1 σ Q) (h2 : bv = false → AOPS P ops r sl2 σ Q) : AOPS P ops (⟨dst, .unOp .not t x, ty, pos, after, none⟩ :: r) sl σ Q := by
  cases hb : bv with
  | true => exact S_notf hx hb hs1 (h1 hb)
  | false => exact S_nott hx hb hs2 (h2 hb)
theorem AOPS_guard_s {op : Op} {j : Nat} {want b : Bool} (hy : ayield ops sl j = some b) (h1 : b = true → AOPS P ops (⟨dst, op, ty, pos, after, some (j, want)⟩ :: r) sl σ Q) (h2 : b = false → AOPS P ops (⟨dst, op, ty, pos, after, some (j, want)⟩ :: r) sl σ Q) : AOPS P ops (⟨dst, op, ty, pos, after, some (j, want)⟩ :: r) sl σ Q := by
  cases hb : b with
  | true => exact h1 hb
  | false => exact h2 hb
theorem ATK_guard_s {op : Op} {j : Nat} {want b : Bool} (hy : ayield ops sl j = some b) (h1 : b = true → ATK P ops (⟨dst, op, ty, pos, after, some (j, want)⟩ :: r) sl σ Q) (h2 : b = false → ATK P ops (⟨dst, op, ty, pos, after, some (j, want)⟩ :: r) sl σ Q) : ATK P ops (⟨dst, op, ty, pos, after, some (j, want)⟩ :: r) sl σ Q := by
  cases hb : b with
  | true => exact h1 hb
  | false => exact h2 hb
theorem ATL_guard_s {op : Op} {j : Nat} {want b : Bool} (hy : ayield ops sl j = some b) (h1 : b = true → ATL P ops (⟨dst, op, ty, pos, after, some (j, want)⟩ :: r) sl σ Q) (h2 : b = false → ATL P ops (⟨dst, op, ty, pos, after, some (j, want)⟩ :: r) sl σ Q) : ATL P ops (⟨dst, op, ty, pos, after, some (j, want)⟩ :: r) sl σ Q := by
  cases hb : b with
  | true => exact h1 hb
  | false => exact h2 hb
theorem S_not_s {t : TypeId} {b : Bool} (hx : aev sl x = .bool b) (h1 : b = true → AOPS P ops (⟨dst, .unOp .not t x, ty, pos, after, none⟩ :: r) sl σ Q) (h2 : b = false → AOPS P ops (⟨dst, .unOp .not t x, ty, pos, after, none⟩ :: r) sl σ Q) : AOPS P ops (⟨dst, .unOp .not t x, ty, pos, after, none⟩ :: r) sl σ Q := by
  cases hb : b with
  | true => exact h1 hb
  | false => exact h2 hb
theorem S_pick_s {c : Operand} {b : Bool} (hx : aev sl c = .bool b) (h1 : b = true → AOPS P ops (⟨dst, .pick c x y, ty, pos, after, none⟩ :: r) sl σ Q) (h2 : b = false → AOPS P ops (⟨dst, .pick c x y, ty, pos, after, none⟩ :: r) sl σ Q) : AOPS P ops (⟨dst, .pick c x y, ty, pos, after, none⟩ :: r) sl σ Q := by
  cases hb : b with
  | true => exact h1 hb
  | false => exact h2 hb
theorem TS_not_s {t : TypeId} {b : Bool} (hx : aev sl x = .bool b) (h1 : b = true → ATK P ops (⟨dst, .unOp .not t x, ty, pos, after, none⟩ :: r) sl σ Q) (h2 : b = false → ATK P ops (⟨dst, .unOp .not t x, ty, pos, after, none⟩ :: r) sl σ Q) : ATK P ops (⟨dst, .unOp .not t x, ty, pos, after, none⟩ :: r) sl σ Q := by
  cases hb : b with
  | true => exact h1 hb
  | false => exact h2 hb
theorem TS_pick_s {c : Operand} {b : Bool} (hx : aev sl c = .bool b) (h1 : b = true → ATK P ops (⟨dst, .pick c x y, ty, pos, after, none⟩ :: r) sl σ Q) (h2 : b = false → ATK P ops (⟨dst, .pick c x y, ty, pos, after, none⟩ :: r) sl σ Q) : ATK P ops (⟨dst, .pick c x y, ty, pos, after, none⟩ :: r) sl σ Q := by
  cases hb : b with
  | true => exact h1 hb
  | false => exact h2 hb
theorem AWP_cond_s2 {c : Operand} {b : Bool} {u v : Code} (hx : aev sl c = .bool b) (h1 : b = true → AWP P (.cond c u v) sl σ Q) (h2 : b = false → AWP P (.cond c u v) sl σ Q) : AWP P (.cond c u v) sl σ Q := by
  cases hb : b with
  | true => exact h1 hb
  | false => exact h2 hb
end Go.Proofs.Ytnjkklkjlloedaa
