/- The abstract machine: calls: a function's contract, its body, its frame; rows that nobody writes to any more. -/
import Derived.Test.YtnjkklkjlloedaaAm8
namespace Go.Proofs.Ytnjkklkjlloedaa
open Go.RowKit
set_option linter.unusedVariables false
set_option linter.unusedSimpArgs false

variable {base : Nat} {Fi : Int → Prop} {M M' M'' : MM} {w w' w'' : World}
variable {P : Program} {ops : Array Oper} {r : List Oper} {sl sl' : List AV} {σ σ' : ASt} {Q : Exit → List AV → ASt → Prop}
variable {d : Tmp} {dst : Option Tmp} {ty : TypeId} {pos : String} {after : Array Edge} {x y z : Operand} {gd : Option (Nat × Bool)} {op : Op}

def ACalls (P : Program) (f : FuncId) (args : List AV) (σ : ASt) (K : AV → ASt → Prop) : Prop := ∀ base Fi M w vs, St base Fi M w σ → RepsL M w args vs →
  Calls P f vs.toArray w (fun e w' => ∃ r σ' M' v, K r σ' ∧ e = .returned v ∧ Reps M' w' r v ∧ St base Fi M' w' σ' ∧ Stp base Fi M w M' w')
theorem ACalls.mono {f : FuncId} {args : List AV} {K K' : AV → ASt → Prop} (h : ACalls P f args σ K) (hk : ∀ r σ', K r σ' → K' r σ') : ACalls P f args σ K' :=
  fun base Fi M w vs S hr => (h base Fi M w vs S hr).mono fun e w' ⟨r, σ', M', v, h1, h2⟩ => ⟨r, σ', M', v, hk _ _ h1, h2⟩

/-! ### A function's body -/
inductive AResults (P : Program) (sl : List AV) (σ : ASt) : List ResultVar → List AV → Prop
  | nil : AResults P sl σ [] []
  | tmp {t : Tmp} {rs : List ResultVar} {xs : List AV} {a : AV} : aev sl (.tmp t) = a → AResults P sl σ rs xs → AResults P sl σ (.tmp t :: rs) (a :: xs)
  | cell {t : Tmp} {ty : TypeId} {agg : Bool} {sz : Nat} {id : Int} {off : Nat} {cells : List AV} {av : AV} {rs : List ResultVar} {xs : List AV} : aev sl (.tmp t) = .ptr id off → TyVar P ty agg sz → alook σ.objs id = some cells → aload agg sz cells off = some av → AResults P sl σ rs xs → AResults P sl σ (.cell t ty :: rs) (av :: xs)
def aone : List AV → AV
  | [a] => a
  | xs => .tup xs
def ARet (P : Program) (fn : Func) (K : AV → ASt → Prop) : Exit → List AV → ASt → Prop := fun e sl σ => (e = .normal ∨ e = .ret) ∧ ∃ xs, AResults P sl σ fn.results.toList xs ∧ K (aone xs) σ
theorem ARet_ret {fn : Func} {K : AV → ASt → Prop} {rs : List ResultVar} {xs : List AV} (h0 : fn.results = rs.toArray) (h : AResults P sl σ rs xs) (hk : K (aone xs) σ) : ARet P fn K .ret sl σ := ⟨.inr rfl, xs, by rw [h0]; simpa using h, hk⟩
theorem ARet_normal {fn : Func} {K : AV → ASt → Prop} {rs : List ResultVar} {xs : List AV} (h0 : fn.results = rs.toArray) (h : AResults P sl σ rs xs) (hk : K (aone xs) σ) : ARet P fn K .normal sl σ := ⟨.inl rfl, xs, by rw [h0]; simpa using h, hk⟩
def resVal (tmps : Array Value) : ResultVar → Sem Value
  | .tmp t => pure (tmps.getD t undef)
  | .cell q t => do loadVar t (← asAddr (tmps.getD q undef))
theorem results_eq (fn : Func) (tmps : Array Value) : results fn tmps = (do let vs ← fn.results.mapM (resVal tmps); pure (if h : vs.size = 1 then vs[0] else .tuple vs)) := by
  unfold results
  have : (fun (x : ResultVar) => (match x with
    | .tmp t => pure (tmps.getD t undef)
    | .cell a t => do loadVar t (← asAddr (tmps.getD a undef)) : Sem Value)) = resVal tmps := by funext x; cases x <;> rfl
  rw [← this]
  rfl
theorem asAddr_some (w : World) (q : Addr) : (asAddr (.pointer (some q))).run P w = .ok q w := rfl
theorem AResults.run {a : Act} (hr : Rel base Fi M a w sl σ) : ∀ {rs : List ResultVar} {xs : List AV}, AResults P sl σ rs xs → ∃ vs : List Value, (rs.mapM (resVal a.tmps)).run P w = .ok vs w ∧ RepsL M w xs vs := by
  intro rs xs h
  induction h with
  | nil => exact ⟨[], rfl, RepsL.nil⟩
  | @tmp t rs xs av ha _ ih =>
    obtain ⟨vs, h1, h2⟩ := ih
    have h3 := ev1 hr.2.1 ha
    exact ⟨_ :: vs, by simp only [List.mapM_cons, Sem.run_bind, Sem.run_pure, Result.andThen_ok, h1, resVal]; rfl, RepsL.cons h3 h2⟩
  | @cell t ty agg sz id off cells av rs xs ha T ho hl _ ih =>
    obtain ⟨vs, h1, h2⟩ := ih
    have h3 := ev1 hr.2.1 ha
    unfold Reps at h3
    obtain ⟨b, h4, h5⟩ := h3
    obtain ⟨_, b', us, e, h6, _, h7, h8⟩ := hr.2.2.obs id cells ho
    rw [h4] at h6; cases h6
    obtain ⟨v, h9, h10⟩ := loadVar_ok (b := b) (o := 0) (L := fun w' => w' = w) T h8 (fun w' hw j u hu => by subst hw; rw [cell_of_row w' _ _ _ _ _ h7]; simpa using hu) hl
    replace h9 := h9 w rfl
    rw [Nat.zero_add] at h9
    have h5' : a.tmps.getD t undef = .pointer (some ⟨b, off, none⟩) := h5
    have h11 : (resVal a.tmps (.cell t ty)).run P w = .ok v w := by simp only [resVal, Sem.run_bind, h5', asAddr_some, Result.andThen_ok, h9]
    exact ⟨v :: vs, by simp only [List.mapM_cons, Sem.run_bind, h11, Sem.run_pure, Result.andThen_ok, h1], RepsL.cons h10 h2⟩
theorem results_ok {fn : Func} {a : Act} (hr : Rel base Fi M a w sl σ) {xs : List AV} (h : AResults P sl σ fn.results.toList xs) : ∃ v, (results fn a.tmps).run P w = .ok v w ∧ Reps M w (aone xs) v := by
  obtain ⟨vs, h1, h2⟩ := AResults.run hr h
  have hl := h2.length
  have h4 : (results fn a.tmps).run P w = .ok (if h : vs.toArray.size = 1 then vs.toArray[0] else .tuple vs.toArray) w := by
    rw [results_eq, Array.mapM_eq_mapM_toList]
    simp only [Sem.run_bind, Sem.run_map, h1, Result.andThen_ok, Sem.run_pure]
  refine ⟨_, h4, ?_⟩
  by_cases h1 : vs.toArray.size = 1
  · rw [dif_pos h1]
    match vs, xs, hl, h1, h2 with
    | [v], [x], _, _, h2 =>
      unfold RepsL at h2
      obtain ⟨v', vr, he, h5, h6⟩ := h2
      cases he
      exact h5
    | [v], [], hl, _, _ => simp at hl
    | [v], _ :: _ :: _, hl, _, _ => simp at hl
    | [], _, _, h1, _ => simp at h1
    | _ :: _ :: _, _, _, h1, _ => simp at h1
  · rw [dif_neg h1]
    have : aone xs = .tup xs := by
      match xs, hl with
      | [], _ => rfl
      | [_], hl => simp at h1; exact absurd hl h1
      | _ :: _ :: _, _ => rfl
    rw [this]
    unfold Reps
    exact ⟨_, rfl, by simpa using h2⟩
theorem ACalls_body {f : FuncId} {fn : Func} {c : Code} {args : List AV} {K : AV → ASt → Prop} {n : Nat} (hf : P.funcs[f]? = some fn) (hb : fn.body = some c) (hn : fn.ntmps - args.length = n) (h : AWP P c (args ++ List.replicate n .und) σ (ARet P fn K)) : ACalls P f args σ K := by
  intro base Fi M w vs S hr
  have hl := hr.length
  refine calls_of_wp hf hb (wp_mono (h base Fi M w M _ w (Stp.refl _ _ _ _) ⟨rfl, ?_, S⟩) ?_)
  · simp only [Array.toList_append, Array.toList_replicate, List.size_toArray, hl, hn]
    exact hr.append (RepsL.replicate (by unfold Reps; rfl) n)
  · rintro e a' w' ⟨sl', σ', M', ⟨he, xs, hx, hk⟩, hr', hs⟩
    obtain ⟨v, h1, h2⟩ := results_ok hr' hx
    rcases he with rfl | rfl <;> exact ⟨hr'.1, v, h1, _, σ', M', v, hk, rfl, h2, hr'.2.2, hs⟩

/-! ### A call -/
theorem AOPS_call {f : Operand} {g : FuncId} {first cap : List AV} {as_ : List Operand} {ats : Array TypeId} {args : List AV} {K : AV → ASt → Prop} (hf : aev sl f = .fn g first cap) (ha : first ++ as_.map (aev sl) ++ cap = args) (hc : ∀ (vs : Array Value) (w : World), (callFunc g vs).run P w = .ok (.enter g vs) w) (h : ACalls P g args σ K) (hk : ∀ rv σ', K rv σ' → AOPS P ops r (aput sl dst rv) σ' Q) : AOPS P ops (⟨dst, .call { callee := .value f, args := as_.toArray, argTypes := ats }, ty, pos, after, none⟩ :: r) sl σ Q := by
  intro base Fi M0 w0 M a w hst hr
  refine wpList_plain rfl fun KK hK => ?_
  have h1 := ev1 hr.2.1 hf
  unfold Reps at h1
  obtain ⟨fs, cs, h1, h2, h3⟩ := h1
  have h4 : RepsL M w args (fs.toList ++ as_.map a.eval ++ cs.toList) := by rw [← ha]; exact (h2.append (evs hr.2.1 as_)).append h3
  have h5 := h base Fi M w _ hr.2.2 h4
  unfold Oper.wp
  have h6 : (execOp a.eval ⟨dst, .call { callee := .value f, args := as_.toArray, argTypes := ats }, ty, pos, after, none⟩).run P w = .ok (.enter g (fs.toList ++ as_.map a.eval ++ cs.toList).toArray) w := by
    have e1 : fs ++ (as_.map a.eval).toArray ++ cs = (fs.toList ++ as_.map a.eval ++ cs.toList).toArray := by
      apply Array.ext'; simp
    simp only [execOp, resolve, Deferred.ofValue, h1, Sem.run_bind, Sem.run_pure, Result.andThen_ok, invoke, List.map_toArray]
    rw [e1, hc]
  rw [h6]
  show Calls P g _ w _
  refine h5.mono ?_
  rintro e w' ⟨rv, σ', M', v, h7, rfl, h8, h9, h10⟩
  refine hK _ _ (hk rv σ' h7 base Fi M0 w0 M' _ w' (hst.trans h10) ⟨?_, aput_reps (RepsL.stp h10 _ _ hr.2.1) dst h8, h9⟩)
  cases dst <;> exact hr.1

/-! ### What is forgotten; what a call doesn't see -/
structure ASub (σ1 σ : ASt) : Prop where
  objs : ∀ id cells, alook σ1.objs id = some cells → alook σ.objs id = some cells
  toks : ∀ id top, alook σ1.toks id = some top → alook σ.toks id = some top
  next : σ.next ≤ σ1.next
theorem St.sub (S : St base Fi M w σ) {σ1 : ASt} (h : ASub σ1 σ) : St base Fi M w σ1 :=
  ⟨S.base_le, fun id c hl => S.obs id c (h.objs id c hl), fun id t hl => S.tks id t (h.toks id t hl), S.inj, S.dis, S.tinj, S.obsz, S.tksz, fun id hid => S.fresh id (Int.le_trans h.next hid)⟩
theorem ACalls.sub {f : FuncId} {args : List AV} {K K' : AV → ASt → Prop} (h : ACalls P f args σ K) (hk : ∀ r σ', K r σ' → ∃ σ1, ASub σ1 σ' ∧ K' r σ1) : ACalls P f args σ K' :=
  fun base Fi M w vs S hr => (h base Fi M w vs S hr).mono fun e w' ⟨r, σ', M', v, h1, h2, h3, h4, h5⟩ => let ⟨σ1, k1, k2⟩ := hk _ _ h1; ⟨r, σ1, M', v, k2, h2, h3, h4.sub k1, h5⟩
theorem AOPS_sub {l : List Oper} {σ1 : ASt} (hs : ASub σ1 σ) (h : AOPS P ops l sl σ1 Q) : AOPS P ops l sl σ Q := fun base Fi M0 w0 M a w hst hr => h base Fi M0 w0 M a w hst ⟨hr.1, hr.2.1, hr.2.2.sub hs⟩
theorem AWP_sub {c : Code} {σ1 : ASt} (hs : ASub σ1 σ) (h : AWP P c sl σ1 Q) : AWP P c sl σ Q := fun base Fi M0 w0 M a w hst hr => h base Fi M0 w0 M a w hst ⟨hr.1, hr.2.1, hr.2.2.sub hs⟩

def afree {α : Type} (l1 l : List (Int × α)) : List (Int × α) := l.filter fun p => (alook l1 p.1).isNone
/-- A call sees a part of the store; the rest stays. -/
structure ASplit (σ1 fr σ : ASt) : Prop where
  sub : ASub σ1 σ
  fobjs : ∀ id cells, alook fr.objs id = some cells → alook σ.objs id = some cells ∧ alook σ1.objs id = none ∧ alook σ1.toks id = none
  ftoks : ∀ id top, alook fr.toks id = some top → alook σ.toks id = some top ∧ alook σ1.toks id = none ∧ alook σ1.objs id = none
theorem alook_append {α : Type} : ∀ (l1 l2 : List (Int × α)) (id : Int), alook (l1 ++ l2) id = match alook l1 id with | some v => some v | none => alook l2 id
  | [], l2, id => by simp [alook]
  | (k, v) :: r, l2, id => by
    simp only [List.cons_append, alook]
    split
    · rfl
    · exact alook_append r l2 id
def amerge (σ1 fr : ASt) : ASt := ⟨σ1.objs ++ fr.objs, σ1.toks ++ fr.toks, σ1.next⟩
theorem ACalls.frame {f : FuncId} {args : List AV} {K : AV → ASt → Prop} {σ1 fr : ASt} (h : ACalls P f args σ1 K) (hs : ASplit σ1 fr σ) : ACalls P f args σ (fun rv σ' => ∃ σ2, K rv σ2 ∧ σ' = amerge σ2 fr) := by
  intro base Fi M w vs S hr
  let Fi' : Int → Prop := fun id => Fi id ∨ (alook fr.objs id).isSome = true ∨ (alook fr.toks id).isSome = true
  have fro : ∀ id cells, alook σ1.objs id = some cells → ¬ Fi' id := by
    rintro id cells h1 (h2 | h2 | h2)
    · exact (S.obs id cells (hs.sub.objs id cells h1)).1.1 h2
    · obtain ⟨c, hc⟩ := Option.isSome_iff_exists.1 h2
      have := (hs.fobjs id c hc).2.1
      rw [h1] at this; cases this
    · obtain ⟨c, hc⟩ := Option.isSome_iff_exists.1 h2
      have := (hs.ftoks id c hc).2.2
      rw [h1] at this; cases this
  have frt : ∀ id top, alook σ1.toks id = some top → ¬ Fi' id := by
    rintro id cells h1 (h2 | h2 | h2)
    · exact (S.tks id cells (hs.sub.toks id cells h1)).1 h2
    · obtain ⟨c, hc⟩ := Option.isSome_iff_exists.1 h2
      have := (hs.fobjs id c hc).2.2
      rw [h1] at this; cases this
    · obtain ⟨c, hc⟩ := Option.isSome_iff_exists.1 h2
      have := (hs.ftoks id c hc).2.1
      rw [h1] at this; cases this
  have S1 := S.sub hs.sub
  have S' : St base Fi' M w σ1 := by
    refine ⟨S1.base_le, fun id c hl => ?_, fun id t hl => ⟨frt id t hl, (S1.tks id t hl).2⟩, S1.inj, S1.dis, S1.tinj, S1.obsz, S1.tksz, fun id hid => ?_⟩
    · obtain ⟨h1, h2⟩ := S1.obs id c hl
      exact ⟨⟨fro id c hl, h1.2⟩, h2⟩
    · obtain ⟨h1, h2, h3, h4⟩ := S1.fresh id hid
      refine ⟨h1, h2, ?_, h4⟩
      rintro (h5 | h5 | h5)
      · exact h3 h5
      · obtain ⟨c, hc⟩ := Option.isSome_iff_exists.1 h5
        obtain ⟨_, b, _, _, h6, _⟩ := S.obs id c (hs.fobjs id c hc).1
        rw [h1] at h6; cases h6
      · obtain ⟨c, hc⟩ := Option.isSome_iff_exists.1 h5
        obtain ⟨_, T, h6, _⟩ := S.tks id c (hs.ftoks id c hc).1
        rw [h2] at h6; cases h6
  refine (h base Fi' M w vs S' hr).mono ?_
  rintro e w' ⟨rv, σ2, M', v, hk, he, hv, S2, T⟩
  have TT : Stp base Fi M w M' w' := ⟨T.os, T.tape, T.output, T.size, T.below, T.ob, fun id T0 h0 => let ⟨T1, h1, h2, h3⟩ := T.tk id T0 h0; ⟨T1, h1, h2, h3.imp (fun h => h) fun ⟨a, b⟩ => ⟨a, fun c => b (.inl c)⟩⟩, T.cell, fun id b hf => T.fob id b (.inl hf), fun id hf => T.ffz id (.inl hf), fun id T0 b e' ce hf => T.ftk id T0 b e' ce (.inl hf)⟩
  refine ⟨rv, amerge σ2 fr, M', v, ⟨σ2, hk, rfl⟩, he, hv, ?_, TT⟩
  refine ⟨S2.base_le, ?_, ?_, S2.inj, S2.dis, S2.tinj, S2.obsz, S2.tksz, fun id hid => ?_⟩
  · intro id cells hl
    simp only [amerge, alook_append] at hl
    cases h2 : alook σ2.objs id with
    | some c =>
      rw [h2] at hl; simp only [Option.some.injEq] at hl; subst hl
      obtain ⟨h3, h4⟩ := S2.obs id c h2
      exact ⟨⟨fun hf => h3.1 (.inl hf), h3.2⟩, h4⟩
    | none =>
      rw [h2] at hl
      simp only at hl
      have hF : Fi' id := .inr (.inl (by rw [hl]; rfl))
      obtain ⟨h3, b, us, e', h4, h5, h6, h7⟩ := S.obs id cells (hs.fobjs id cells hl).1
      exact ⟨⟨h3.1, fun hz => h3.2 (T.ffz id hF hz)⟩, b, us, e', T.ob _ _ h4, h5, by rw [T.fob id b hF h4]; exact h6, RepsL.stp T _ _ h7⟩
  · intro id top hl
    simp only [amerge, alook_append] at hl
    cases h2 : alook σ2.toks id with
    | some c =>
      rw [h2] at hl; simp only [Option.some.injEq] at hl; subst hl
      obtain ⟨h3, h4⟩ := S2.tks id c h2
      exact ⟨fun hf => h3 (.inl hf), h4⟩
    | none =>
      rw [h2] at hl
      simp only at hl
      have hF : Fi' id := .inr (.inr (by rw [hl]; rfl))
      obtain ⟨h3, T0, h4, h5, h6⟩ := S.tks id top (hs.ftoks id top hl).1
      obtain ⟨T1, h7, _, h8⟩ := T.tk id T0 h4
      rcases h8 with rfl | ⟨_, h8⟩
      · refine ⟨h3, T1, h7, h5, fun b e' ce hb => ?_⟩
        obtain ⟨h9, h10⟩ := h6 b e' ce hb
        have hB := T.ftk id T1 b e' ce hF h4 hb
        exact ⟨h9, h10.heap hB⟩
      · exact absurd hF h8
  · obtain ⟨h1, h2, h3, h4⟩ := S2.fresh id hid
    exact ⟨h1, h2, fun hf => h3 (.inl hf), h4⟩
/-- A call that sees nothing of the store. -/
theorem ACalls.pure {f : FuncId} {args : List AV} {K : AV → ASt → Prop} (h : ACalls P f args ⟨[], [], σ.next⟩ K) : ACalls P f args σ (fun rv σ' => ∃ σ2, K rv σ2 ∧ σ' = amerge σ2 σ) :=
  h.frame ⟨⟨(fun _ _ h => by simp [alook] at h), (fun _ _ h => by simp [alook] at h), Int.le_refl _⟩, fun _ _ h => ⟨h, rfl, rfl⟩, fun _ _ h => ⟨h, rfl, rfl⟩⟩
end Go.Proofs.Ytnjkklkjlloedaa
