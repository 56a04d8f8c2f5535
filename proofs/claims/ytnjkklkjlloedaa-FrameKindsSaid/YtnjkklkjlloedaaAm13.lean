/- The abstract machine: loops. -/
import Derived.Test.YtnjkklkjlloedaaAm12
import Derived.LoopN
namespace Go.Proofs.Ytnjkklkjlloedaa
open Go.RowKit
set_option linter.unusedVariables false
set_option linter.unusedSimpArgs false
variable {base : Nat} {Fi : Int → Prop} {M M' M'' : MM} {w w' w'' : World}
variable {P : Program} {ops : Array Oper} {r : List Oper} {sl sl' : List AV} {σ σ' : ASt} {Q : Exit → List AV → ASt → Prop}

/-- So many rounds at most, one after the other. -/
def ARounds (P : Program) (c : Code) (Q : Exit → List AV → ASt → Prop) : Nat → List AV → ASt → Prop
  | 0, _, _ => False
  | n + 1, sl, σ => AWP P c sl σ (fun e sl σ => match e with | .normal => ARounds P c Q n sl σ | e => Q e sl σ)
def ANext (P : Program) (c : Code) (Q : Exit → List AV → ASt → Prop) (n : Nat) : Exit → List AV → ASt → Prop := fun e sl σ => match e with | .normal => ARounds P c Q n sl σ | e => Q e sl σ
theorem ARounds_step {c : Code} {n : Nat} (h : AWP P c sl σ (ANext P c Q n)) : ARounds P c Q (n + 1) sl σ := h
theorem ANext_normal {c : Code} {n : Nat} (h : ARounds P c Q n sl σ) : ANext P c Q n .normal sl σ := h
theorem ANext_exit {c : Code} {n i : Nat} (h : Q (.exit i) sl σ) : ANext P c Q n (.exit i) sl σ := h
theorem ANext_goto {c : Code} {n i : Nat} (h : Q (.goto i) sl σ) : ANext P c Q n (.goto i) sl σ := h
theorem ANext_ret {c : Code} {n : Nat} (h : Q .ret sl σ) : ANext P c Q n .ret sl σ := h
theorem AWP_loop_n {c : Code} (n : Nat) (h : ARounds P c Q n sl σ) : AWP P (.loop c) sl σ Q := by
  intro base Fi M0 w0 M a w hs hr
  refine wp_loop_rounds n ?_
  induction n generalizing sl σ M a w with
  | zero => exact h.elim
  | succ n ih =>
    rw [rounds_succ]
    refine wp_mono (h base Fi M0 w0 M a w hs hr) ?_
    rintro e a' w' ⟨sl', σ', M', hq, hr', hs'⟩
    cases e with
    | normal => exact ih hq M' a' w' hs' hr'
    | _ => exact ⟨sl', σ', M', hq, hr', hs'⟩

/-- Slots, some of them written. -/
def setF : List AV → Nat → AV → Option (List AV)
  | _ :: cs, 0, v => some (v :: cs)
  | c :: cs, k + 1, v => match setF cs k v with | some r => some (c :: r) | none => none
  | [], _, _ => none
def setsF : List AV → List Nat → List AV → Option (List AV)
  | sl, [], [] => some sl
  | sl, i :: ix, v :: vs => match setF sl i v with | some s => setsF s ix vs | none => none
  | _, _, _ => none
/-- A loop: what holds ahead of each round is told by a parameter: the slots of ix hold vs, the others what they held; the store; a measure. -/
def ALoopQ (sl0 : List AV) (ix : List Nat) {N : Type} (vs : N → List AV) (st : N → ASt) (inv : N → Prop) (μ : N → Nat) (m : Nat) (Q : Exit → List AV → ASt → Prop) : Exit → List AV → ASt → Prop
  | .normal, sl, σ => ∃ n, setsF sl0 ix (vs n) = some sl ∧ st n = σ ∧ inv n ∧ μ n < m
  | e, sl, σ => Q e sl σ
theorem ALoopQ_normal {sl0 : List AV} {ix : List Nat} {N : Type} {vs : N → List AV} {st : N → ASt} {inv : N → Prop} {μ : N → Nat} {m : Nat} (n : N) (h1 : setsF sl0 ix (vs n) = some sl) (h2 : st n = σ) (h3 : inv n) (h4 : μ n < m) : ALoopQ sl0 ix vs st inv μ m Q .normal sl σ := ⟨n, h1, h2, h3, h4⟩
theorem ALoopQ_ret {sl0 : List AV} {ix : List Nat} {N : Type} {vs : N → List AV} {st : N → ASt} {inv : N → Prop} {μ : N → Nat} {m : Nat} (h : Q .ret sl σ) : ALoopQ sl0 ix vs st inv μ m Q .ret sl σ := h
theorem ALoopQ_exit {sl0 : List AV} {ix : List Nat} {N : Type} {vs : N → List AV} {st : N → ASt} {inv : N → Prop} {μ : N → Nat} {m i : Nat} (h : Q (.exit i) sl σ) : ALoopQ sl0 ix vs st inv μ m Q (.exit i) sl σ := h
theorem ALoopQ_goto {sl0 : List AV} {ix : List Nat} {N : Type} {vs : N → List AV} {st : N → ASt} {inv : N → Prop} {μ : N → Nat} {m i : Nat} (h : Q (.goto i) sl σ) : ALoopQ sl0 ix vs st inv μ m Q (.goto i) sl σ := h
theorem AWP_loopS {c : Code} {sl0 : List AV} (ix : List Nat) {N : Type} (vs : N → List AV) (st : N → ASt) (inv : N → Prop) (μ : N → Nat) (n0 : N) (h0 : setsF sl0 ix (vs n0) = some sl0) (hst : st n0 = σ) (hi : inv n0)
    (round : ∀ n sl', setsF sl0 ix (vs n) = some sl' → inv n → AWP P c sl' (st n) (ALoopQ sl0 ix vs st inv μ (μ n) Q)) : AWP P (.loop c) sl0 σ Q := by
  have key : ∀ m n sl', μ n = m → setsF sl0 ix (vs n) = some sl' → inv n → ARounds P c Q (m + 1) sl' (st n) := by
    intro m
    induction m using Nat.strongRecOn with
    | _ m ih =>
      intro n sl' hm hs hi
      have hw := round n sl' hs hi
      intro base Fi M0 w0 M a w hst hr
      refine wp_mono (hw base Fi M0 w0 M a w hst hr) ?_
      rintro e a' w' ⟨sl2, σ2, M', hq, hr', hs'⟩
      refine ⟨sl2, σ2, M', ?_, hr', hs'⟩
      cases e with
      | normal =>
        obtain ⟨n', h1, h2, h3, h4⟩ := hq
        have h5 := ih (μ n') (by omega) n' sl2 rfl h1 h3
        subst h2
        have mono : ∀ k j, k ≤ j → ∀ sl σ, ARounds P c Q k sl σ → ARounds P c Q j sl σ := by
          intro k
          induction k with
          | zero => intro j _ sl σ h; exact h.elim
          | succ k ihk =>
            intro j hj sl σ h
            obtain ⟨j, rfl⟩ : ∃ i, j = i + 1 := ⟨j - 1, by omega⟩
            intro base Fi M0 w0 M a w hst hr
            refine wp_mono (h base Fi M0 w0 M a w hst hr) ?_
            rintro e a' w' ⟨sl3, σ3, M3, hq3, hr3, hs3⟩
            refine ⟨sl3, σ3, M3, ?_, hr3, hs3⟩
            cases e with
            | normal => exact ihk j (by omega) sl3 σ3 hq3
            | _ => exact hq3
        exact mono (μ n' + 1) m (by omega) sl2 _ h5
      | _ => exact hq
  subst hst
  exact AWP_loop_n (μ n0 + 1) (key _ n0 sl0 rfl h0 hi)
variable {dst : Option Tmp} {ty : TypeId} {pos : String} {after : Array Edge} {x y z : Operand} {objs : List (Int × List AV)} {toks : List (Int × Nat)} {next : Int}
/-- A row of n elements, all of them zero. -/
theorem azeros_eq (zs : List Value) (hz : 0 < zs.length) : ∀ n, azeros zs (n * zs.length) = zerosF zs n
  | 0 => by simp [azeros, zerosF]
  | n + 1 => by
    rw [zerosF, ← azeros_eq zs hz n]
    apply List.ext_getElem
    · simp [azeros, Nat.succ_mul]; omega
    · intro i h1 h2
      simp only [azeros, List.getElem_map, List.getElem_range]
      by_cases hi : i < zs.length
      · rw [List.getElem_append_left (by simpa using hi)]
        simp [Nat.mod_eq_of_lt hi, hi]
      · rw [List.getElem_append_right (by simpa using hi)]
        simp only [List.length_map, List.getElem_map, List.getElem_range]
        rw [Nat.mod_eq_sub_mod (by omega)]
theorem T_make {t e : TypeId} {by_ sz : Nat} {agg : Bool} {zs : List Value} [T : TySl P t e sz by_] [Z : TyZero P e agg zs] {n : Nat} {k k' : IntKind} {i j : Int} {cs : List AV} (hx : aev sl x = .int k i) (hy : aev sl y = .int k' j) (hi : i = (n : Int)) (hj : j = (n : Int)) (hb : by_ * n ≤ 281474976710656 ∧ n ≤ 1000000000) (hzl : zs.length = sz) (hz : zerosF zs n = cs) (hs : aput sl dst (.row next 0 n) = sl') (h : AOPS P ops r sl' ⟨(next, cs) :: objs, toks, next + 1⟩ Q) : AOPS P ops (⟨dst, .makeSlice t x y, ty, pos, after, none⟩ :: r) sl ⟨objs, toks, next⟩ Q :=
  AOPS_make hx hy hi hj hb hzl hs (by
    have hp := T.pos
    rw [← hz, ← azeros_eq zs (by omega) n, hzl] at h
    exact h)
def zF (v : AV) : Nat → Option (List AV)
  | 0 => some []
  | n + 1 => match zF v n with | some r => some (v :: r) | none => none
theorem zF_ok {v : Value} : ∀ {n : Nat} {cs : List AV}, zF (cav v) n = some cs → zerosF [v] n = cs
  | 0, cs, h => by simp [zF] at h; subst h; rfl
  | n + 1, cs, h => by
    simp only [zF] at h
    split at h
    · rename_i q hq
      cases h
      simp [zerosF, zF_ok hq]
    · cases h
theorem T_make1 {t e : TypeId} {by_ : Nat} {agg : Bool} {v : Value} [T : TySl P t e 1 by_] [Z : TyZero P e agg [v]] {n : Nat} {k k' : IntKind} {i j : Int} {cs : List AV} {av : AV} (hx : aev sl x = .int k i) (hy : aev sl y = .int k' j) (hi : i = (n : Int)) (hj : j = (n : Int)) (hb : by_ * n ≤ 281474976710656 ∧ n ≤ 1000000000) (hv : aevo [] (.const v) = some av) (hz : zF av n = some cs) (hs : aput sl dst (.row next 0 n) = sl') (h : AOPS P ops r sl' ⟨(next, cs) :: objs, toks, next + 1⟩ Q) : AOPS P ops (⟨dst, .makeSlice t x y, ty, pos, after, none⟩ :: r) sl ⟨objs, toks, next⟩ Q :=
  T_make hx hy hi hj hb rfl (zF_ok (by rw [← hz]; congr 1; exact (aevo_eq hv))) hs h
/-- A function that yields a row that it made. -/
theorem AVal.mkRow {f : FuncId} {args : List AV} {cells : List AV} {m : Nat} (hA : AV.shutL args = true) (hR : AV.shutL cells = true) (h0 : m = 0 → cells = []) (h : ACalls P f args ⟨[], [], 0⟩ (fun rv σ' => ∃ id, rv = .row id 0 m ∧ alook σ'.objs id = some cells)) : AVal P f args (.sl .full cells m) := by
  intro σ base Fi M w vs S hr
  refine (seen_none h hA S hr).mono ?_
  rintro e w' ⟨rv, σ2, M', v, ⟨id, rfl, hid⟩, he, hv, S2, TM, S3, hL, T⟩
  obtain ⟨hF, b, us, e', h1, h2, h3, h4⟩ := S2.obs id cells hid
  refine ⟨_, σ, M, v, ⟨rfl, rfl⟩, he, ?_, S3, TM⟩
  have lt : ∀ i b, M.ob i = some b → i < σ.next := fun i b hb => Int.lt_of_not_ge fun hle => by rw [(S.fresh i hle).1] at hb; cases hb
  have ltk : ∀ i T, M.tk i = some T → i < σ.next := fun i T hb => Int.lt_of_not_ge fun hle => by rw [(S.fresh i hle).2.1] at hb; cases hb
  have hidn : 0 ≤ id := Int.not_lt.1 fun hlt => hF.1 hlt
  unfold Reps at hv ⊢
  obtain ⟨b', h5, h6, h7⟩ := hv
  rw [h1] at h5; cases h5
  refine ⟨_, m, us.toList, h6, Nat.le_refl m, h7, (fun h => by cases h), .inr ⟨b, 0, rfl, fun j u hu => ?_⟩, RepsL.less hL cells _ hR h4, h0, by unfold OwnOk; rfl⟩
  rw [Nat.zero_add]
  refine ⟨by rw [cell_of_row w' _ _ _ _ _ h3]; simpa using hu, fun i hi => ?_, fun i T0 e2 ce g1 g2 => ?_⟩
  · have := S2.inj (i - σ.next) id b (T.ob _ b (by rw [sh_ob]; exact hi)) h1
    have := lt i b hi
    omega
  · obtain ⟨T1, k1, _, k3⟩ := T.tk (i - σ.next) T0 (by rw [sh_tk]; exact g1)
    have := ltk i T0 g1
    rcases k3 with rfl | ⟨_, k3⟩
    · exact absurd g2 (S2.dis id _ b T1 e2 ce h1 k1)
    · exact absurd (show i - σ.next < 0 by omega) k3
def asetF {α : Type} : List (Int × α) → Int → α → Option (List (Int × α))
  | [], _, _ => none
  | (k, v) :: r, id, x => if k = id then some ((k, x) :: r) else match asetF r id x with | some q => some ((k, v) :: q) | none => none
theorem asetF_ok {α : Type} : ∀ {l r : List (Int × α)} {id : Int} {x : α}, asetF l id x = some r → aset l id x = r
  | [], r, id, x, h => by simp [asetF] at h
  | (k, v) :: l, r, id, x, h => by
    simp only [asetF] at h
    unfold aset
    split at h
    · rename_i hk; cases h; rw [if_pos hk]
    · rename_i hk
      rw [if_neg hk]
      split at h
      · rename_i q hq; cases h; rw [asetF_ok hq]
      · cases h
theorem U_store {t : TypeId} {off : Nat} {id : Int} {cells cells' : List AV} {av : AV} {objs' : List (Int × List AV)} (hx : aev sl x = .ptr id off) (hy : aevo sl y = some av) [T : TyVar P t false 1] (ho : alook objs id = some cells) (hf : av.one = true) (hc : cutF cells off [av] = some cells') (hob : asetF objs id cells' = some objs') (hs : aput sl dst .und = sl') (h : AOPS P ops r sl' ⟨objs', toks, next⟩ Q) : AOPS P ops (⟨dst, .store t x y, ty, pos, after, none⟩ :: r) sl ⟨objs, toks, next⟩ Q := T_store hx hy ho hf hc (asetF_ok hob) hs h
theorem U_store_all {t : TypeId} {sz : Nat} {id : Int} {cells vs : List AV} {objs' : List (Int × List AV)} (hx : aev sl x = .ptr id 0) (hy : aev sl y = .agg vs) [T : TyVar P t true sz] (ho : alook objs id = some cells) (hf : vs.all AV.one = true) (hl : vs.length = sz) (hle : cells.length = sz) (hob : asetF objs id vs = some objs') (hs : aput sl dst .und = sl') (h : AOPS P ops r sl' ⟨objs', toks, next⟩ Q) : AOPS P ops (⟨dst, .store t x y, ty, pos, after, none⟩ :: r) sl ⟨objs, toks, next⟩ Q := T_store_all hx hy ho hf hl hle (asetF_ok hob) hs h
theorem U_append_tok {t e tx : TypeId} {sz by_ top : Nat} {id : Int} {cells cells2 : List AV} {n m : Nat} {av : AV} {toks' : List (Int × Nat)} (hx : aev sl x = .sl (.tok id top sz) cells n) (hy : aevo sl y = some av) [T : TySl P t e sz by_] (htk : alook toks id = some top) (hS : SrcOk P sz tx av cells2 m) (hb : (n + m) * by_ ≤ 140737488355328 ∧ n + m ≤ 1000000000000) (ht : asetF toks id (top + m) = some toks') (hs : aput sl dst (.sl (.tok id (top + m) sz) (cells ++ cells2) (n + m)) = sl') (h : AOPS P ops r sl' ⟨objs, toks', next⟩ Q) : AOPS P ops (⟨dst, .call { callee := .builtin .append, args := #[x, y], argTypes := #[t, tx] }, ty, pos, after, none⟩ :: r) sl ⟨objs, toks, next⟩ Q := T_append_tok hx hy htk hS hb (asetF_ok ht) hs h
theorem AResults.tmpO {t : Tmp} {rs : List ResultVar} {xs : List AV} {a : AV} (h : aevo sl (.tmp t) = some a) (k : AResults P sl σ rs xs) : AResults P sl σ (.tmp t :: rs) (a :: xs) := .tmp (aevo_eq h) k
theorem AResults.cellO {t : Tmp} {ty : TypeId} {sz : Nat} {id : Int} {cells : List AV} {rs : List ResultVar} {xs : List AV} [T : TyVar P ty true sz] (h : aev sl (.tmp t) = .ptr id 0) (ho : alook σ.objs id = some cells) (hl : cells.length = sz) (k : AResults P sl σ rs xs) : AResults P sl σ (.cell t ty :: rs) (.agg cells :: xs) := .cell h T ho (by simp [aload, ← hl]) k
end Go.Proofs.Ytnjkklkjlloedaa
