/- The abstract machine: ranges over maps, delete, a map's length. -/
import Derived.Test.YtnjkklkjlloedaaRun
import Derived.Maps.RangeRun
namespace Go.Proofs.Ytnjkklkjlloedaa
open Go.RowKit
set_option linter.unusedVariables false
set_option linter.unusedSimpArgs false
variable {base : Nat} {Fi : Int → Prop} {M M' : MM} {w w' : World}
variable {P : Program} {ops : Array Oper} {r : List Oper} {sl sl' : List AV} {σ σ' : ASt} {Q : Exit → List AV → ASt → Prop}
variable {dst : Option Tmp} {ty : TypeId} {pos : String} {after : Array Edge} {x y z : Operand} {objs : List (Int × List AV)} {toks toks' : List (Int × Tq)} {next : Int}

theorem perm_map_inv {α β : Type} {f : α → β} {l m : List β} (h : l.Perm m) : ∀ {L : List α}, m = L.map f → ∃ L0 : List α, L0.Perm L ∧ l = L0.map f := by
  induction h with
  | nil =>
    intro L hL
    exact ⟨[], by rw [List.map_eq_nil_iff.1 hL.symm], rfl⟩
  | cons x _ ih =>
    intro L hL
    cases L with
    | nil => cases hL
    | cons a r =>
      simp only [List.map_cons, List.cons.injEq] at hL
      obtain ⟨L0, h1, h2⟩ := ih hL.2
      exact ⟨a :: L0, h1.cons a, by rw [List.map_cons, ← h2, ← hL.1]⟩
  | swap x y l =>
    intro L hL
    match L, hL with
    | a :: b :: r, hL =>
      simp only [List.map_cons, List.cons.injEq] at hL
      exact ⟨b :: a :: r, List.Perm.swap _ _ _, by simp only [List.map_cons, ← hL.1, ← hL.2.1, ← hL.2.2]⟩
  | trans _ _ ih1 ih2 =>
    intro L hL
    obtain ⟨L1, h1, h2⟩ := ih2 hL
    obtain ⟨L0, h3, h4⟩ := ih1 h2
    exact ⟨L0, h3.trans h1, h4⟩
/-- How much is left of a range. -/
def lft (N : Nat) (seen : List Nat) : Nat := ((List.range N).filter fun j => !seen.contains j).length
theorem lft_lt {N b : Nat} {seen : List Nat} (hb : b < N) (hs : b ∉ seen) : lft N (seen ++ [b]) < lft N seen := by
  refine Go.filter_lt (fun j => !seen.contains j) (fun j => !(seen ++ [b]).contains j) (fun x hx => ?_) b ?_ ?_ (List.range N) (List.mem_range.2 hb)
  · simp [List.contains_eq_mem] at hx ⊢
    exact hx.1
  · simpa [List.contains_eq_mem] using hs
  · simp [List.contains_eq_mem]
/-- An operation with several ends. -/
theorem AOPS_any {o : Oper} (hg : o.guard = none) (K : AV → ASt → Prop) (ho : ∀ base Fi M a w, Rel base Fi M a w sl σ → ∃ av σ', K av σ' ∧ ∃ v w' M', ((execOp a.eval o).run P w = .ok (.value v) w' ∨ ((execOp a.eval o).run P w = .ok .skip w' ∧ v = undef)) ∧ Reps M' w' av v ∧ St base Fi M' w' σ' ∧ Stp base Fi M w M' w') (h : ∀ av σ', K av σ' → AOPS P ops r (aput sl o.dst av) σ' Q) : AOPS P ops (o :: r) sl σ Q := by
  intro base Fi M0 w0 M a w hst hr
  refine wpList_plain hg fun K2 hK => ?_
  obtain ⟨av, σ', hk, v, w', M', hrun, hv, hS, hT⟩ := ho base Fi M a w hr
  have hgo : K2 (a.put o.dst v) w' := by
    refine hK _ _ (h av σ' hk base Fi M0 w0 M' _ w' (hst.trans hT) ⟨?_, ?_, hS⟩)
    · cases o.dst <;> exact hr.1
    · exact aput_reps (RepsL.stp hT _ _ hr.2.1) o.dst hv
  unfold Oper.wp
  rcases hrun with hrun | ⟨hrun, rfl⟩ <;> rw [hrun] <;> exact hgo
theorem Grew.drew (w : World) : Grew w w.drew := ⟨rfl, rfl, rfl, Nat.le_refl _, fun _ _ => rfl⟩
theorem run_choose_next (n : Nat) (h : 0 < n) (w : World) : ∃ (j : Nat) (w1 : World), j < n ∧ (w1 = w ∨ w1 = w.drew) ∧ (choose (Question.mapNext n)).run P w = .ok j w1 := by
  by_cases hf : n ≤ 1
  · exact ⟨0, w, h, .inl rfl, by simp [choose, Sem.run, Question.forced, hf]⟩
  · exact ⟨_, w.drew, Nat.mod_lt _ h, .inr rfl, by
      simp only [choose, Sem.run, Question.forced, decide_eq_true_eq, hf, if_false, Question.cut]
      rfl⟩
/-- A range's step. -/
theorem run_next_gen (w : World) (ty : TypeId) (r bm since c0 : Nat) (seen : Array Nat) (es : Array MapEntry) (clock : Nat)
    (hr : w.heap[r]? = some (.mapIter (some bm) since seen c0)) (hb : w.heap[bm]? = some (.map es clock)) (ht : (!seen.isEmpty && !es.isEmpty && es.all (fun x => decide (x.born ≥ c0))) = false) :
    ((∀ x ∈ es.toList, x.born < since → seen.contains x.born = true) ∧ ∃ w1 : World, (w1 = w ∨ w1 = w.drew) ∧ (Instr.next (.pointer (some ⟨r, 0, none⟩)) false ty).run P w = .ok (.tuple #[.bool false]) w1) ∨
    ∃ e ∈ es.toList, seen.contains e.born = false ∧ ∃ w1 : World, (w1 = w ∨ w1 = w.drew) ∧ (Instr.next (.pointer (some ⟨r, 0, none⟩)) false ty).run P w = .ok (.tuple #[.bool true, e.key, e.val]) { w1 with heap := w1.heap.setIfInBounds r (.mapIter (some bm) since (seen.push e.born) clock) } := by
  simp only [Instr.next, getObj, Sem.run_bind, Sem.run, hr, hb, Result.andThen, ht, Bool.false_eq_true, if_false]
  have hL : ∀ e ∈ (Array.filter (fun e => !seen.contains e.born) es).toList, e ∈ es.toList ∧ seen.contains e.born = false := fun e he => by simp at he ⊢; exact he
  have hL2 : ∀ e ∈ es.toList, seen.contains e.born = false → e ∈ (Array.filter (fun e => !seen.contains e.born) es).toList := fun e he hs => by simp at he hs ⊢; exact ⟨he, hs⟩
  generalize Array.filter (fun e => !seen.contains e.born) es = L at hL hL2 ⊢
  generalize hold : L.filter (fun x => decide (x.born < since)) = old
  generalize hnew : L.filter (fun x => decide (x.born ≥ since)) = new
  have hmem : ∀ e ∈ (old ++ new).toList, e ∈ L.toList := by
    intro e he
    subst hold hnew
    simp at he ⊢
    rcases he with he | he <;> exact he.1
  generalize hc : ((if old.isEmpty = true then (#[none] : Array (Option MapEntry)) else #[]) ++ (old ++ new).map some) = cands
  have hcm : ∀ (j : Nat) (e : MapEntry), cands[j]? = some (some e) → e ∈ (old ++ new).toList := by
    intro j e he
    subst hc
    have h := Array.mem_of_getElem? he
    rw [Array.mem_append] at h
    rcases h with h | h
    · split at h
      · simp at h
      · simp at h
    · simp only [Array.mem_map, Option.some.injEq, exists_eq_right] at h
      exact Array.mem_toList_iff.2 h
  have hcn : ∀ j : Nat, cands[j]? = some none → old = #[] := by
    intro j hj
    subst hc
    have h := Array.mem_of_getElem? hj
    rw [Array.mem_append] at h
    rcases h with h | h
    · split at h
      · rename_i ho
        exact Array.isEmpty_iff.1 ho
      · simp at h
    · simp at h
  have hpos : 0 < cands.size := by
    subst hc
    rw [Array.size_append, Array.size_map]
    cases ho : old.isEmpty
    · have : 0 < old.size := by
        rcases Nat.eq_zero_or_pos old.size with h | h
        · simp [Array.isEmpty, h] at ho
        · exact h
      simp
      omega
    · have : 0 < ((if true = true then (#[none] : Array (Option MapEntry)) else #[])).size := by decide
      omega
  obtain ⟨j, w1, hj, hal, hrun⟩ := run_choose_next (P := P) cands.size hpos w
  have hr1 : w1.heap[r]? = some (.mapIter (some bm) since seen c0) := by rcases hal with rfl | rfl <;> exact hr
  have hrun' : Sem.run P (choose (Question.mapNext cands.size)) w = .ok j w1 := hrun
  simp only [hrun', Sem.run_bind, Result.andThen]
  cases hcj : cands[j]? with
  | none => rw [Array.getElem?_eq_none_iff] at hcj; omega
  | some o =>
    cases o with
    | none =>
      left
      refine ⟨fun x hx hxs => ?_, w1, hal, rfl⟩
      cases hs : seen.contains x.born with
      | true => rfl
      | false =>
        have h1 := hL2 x hx hs
        have h2 : x ∈ old := by
          rw [← hold]
          simp only [Array.mem_filter, decide_eq_true_eq]
          exact ⟨Array.mem_toList_iff.1 h1, hxs⟩
        rw [hcn j hcj] at h2
        simp at h2
    | some e =>
      right
      obtain ⟨h1, h2⟩ := hL e (hmem e (hcm j e hcj))
      refine ⟨e, h1, h2, w1, hal, ?_⟩
      simp only [Sem.run_bind, run_setObj_at hr1, Result.andThen]
      rfl
theorem Grew.st2 (h : Grew w w') (S : St base Fi M w σ) : St base Fi M w' σ ∧ Stp base Fi M w M w' := ⟨h.st S, h.stp S⟩
theorem grew_alt {w w1 : World} (h : w1 = w ∨ w1 = w.drew) : Grew w w1 := by
  rcases h with rfl | rfl
  · exact Grew.refl _
  · exact Grew.drew _
theorem MapIs.ofSt {sh : KSh} {kvs : List (AV × AV)} {b mb c : Nat} {bs : List Nat} {o : Obj} (h : MapIs M w kvs b o (.st sh mb bs c)) : b = mb ∧ ∃ es : Array MapEntry, o = .map es c ∧ MapKept.Stamped es c ∧ MapRel M w sh kvs es.toList ∧ es.toList.map MapEntry.born = bs := h
theorem MapRel.nodup {sh : KSh} {kvs : List (AV × AV)} {es : Array MapEntry} {c : Nat} (hm : MapRel M w sh kvs es.toList) (hs : Go.MapKept.Stamped es c) : (kvs.map Prod.fst).Nodup := by
  rw [List.Nodup, List.pairwise_map, List.pairwise_iff_getElem]
  intro i j hi hj hij he
  have := hm.pairs hs (List.getElem?_eq_getElem hi) (List.getElem?_eq_getElem hj) he
  omega
/-- A map's stamps come to light. -/
theorem AOPS_st {id : Int} {sh : KSh} {kvs : List (AV × AV)} (hp : sh.plain = true) (ho : alook toks id = some (.mp sh kvs)) (h : ∀ kvs0 mb bs c, kvs0.Perm kvs → (kvs0.map Prod.fst).Nodup → bs.length = kvs0.length → bs.Nodup → (∀ x ∈ bs, x < c) → AOPS P ops r sl ⟨objs, aset toks id (.mp (.st sh mb bs c) kvs0), next⟩ Q) : AOPS P ops r sl ⟨objs, toks, next⟩ Q := by
  intro base Fi M0 w0 M a w hst hr
  have S := hr.2.2
  obtain ⟨hF, hA⟩ := S.mps id sh kvs ho
  obtain ⟨b, es, c, kvs0, h1, h2, h3, h4, h5, hP⟩ := hA.get hp
  refine h kvs0 b (es.toList.map MapEntry.born) c hP (h5.nodup h4) (by rw [List.length_map]; exact h5.1) ((Go.MapKept.stamped_iff es c).1 h4).2.1 (fun x hx => ?_) base Fi M0 w0 M a w hst ⟨hr.1, hr.2.1, S.base_le, S.obs, fun i t hl => ?_, fun i s ks hl => ?_, S.inj, S.dis, S.tinj, S.obsz, S.tksz, S.fresh⟩
  · obtain ⟨e, he, rfl⟩ := List.mem_map.1 hx
    exact ((Go.MapKept.stamped_iff es c).1 h4).1 e he
  · simp only [alook_aset] at hl
    split at hl
    · rw [ho] at hl; cases hl
    · exact S.tks i t hl
  · simp only [alook_aset] at hl
    split at hl
    · rename_i he
      subst he
      rw [ho] at hl; cases hl
      exact ⟨hF, b, _, h1, h2, h3, rfl, es, rfl, h4, h5, rfl⟩
    · exact S.mps i s ks hl
/-- .. and are not asked for any more, nor is the order. -/
theorem AWP_unst {c : Code} {id : Int} {sh : KSh} {kvs kvs' : List (AV × AV)} {mb ck : Nat} {bs : List Nat} (hp : sh.plain = true) (ho : alook toks id = some (.mp (.st sh mb bs ck) kvs)) (hP : kvs.Perm kvs') (ht : asetF toks id (.mp sh kvs') = some toks') (h : AWP P c sl ⟨objs, toks', next⟩ Q) : AWP P c sl ⟨objs, toks, next⟩ Q := by
  intro base Fi M0 w0 M a w hst hr
  have S := hr.2.2
  rw [← asetF_ok ht] at h
  obtain ⟨hF, b, o, h1, h2, h3, h4⟩ := S.mps id _ kvs ho
  obtain ⟨rfl, es, rfl, h5, h6, h7⟩ := h4.ofSt
  refine h base Fi M0 w0 M a w hst ⟨hr.1, hr.2.1, S.base_le, S.obs, fun i t hl => ?_, fun i s ks hl => ?_, S.inj, S.dis, S.tinj, S.obsz, S.tksz, S.fresh⟩
  · simp only [alook_aset] at hl
    split at hl
    · rw [ho] at hl; cases hl
    · exact S.tks i t hl
  · simp only [alook_aset] at hl
    split at hl
    · rename_i he
      subst he
      rw [ho] at hl; cases hl
      exact ⟨hF, MapAt.put hp b es ck h1 h2 h3 h5 h6 hP⟩
    · exact S.mps i s ks hl
/-- The same within a region. -/
theorem AOPS_unst {id : Int} {sh : KSh} {kvs kvs' : List (AV × AV)} {mb ck : Nat} {bs : List Nat} (hp : sh.plain = true) (ho : alook toks id = some (.mp (.st sh mb bs ck) kvs)) (hP : kvs.Perm kvs') (ht : asetF toks id (.mp sh kvs') = some toks') (h : AOPS P ops r sl ⟨objs, toks', next⟩ Q) : AOPS P ops r sl ⟨objs, toks, next⟩ Q := by
  intro base Fi M0 w0 M a w hst hr
  have S := hr.2.2
  rw [← asetF_ok ht] at h
  obtain ⟨hF, b, o, h1, h2, h3, h4⟩ := S.mps id _ kvs ho
  obtain ⟨rfl, es, rfl, h5, h6, h7⟩ := h4.ofSt
  refine h base Fi M0 w0 M a w hst ⟨hr.1, hr.2.1, S.base_le, S.obs, fun i t hl => ?_, fun i s ks hl => ?_, S.inj, S.dis, S.tinj, S.obsz, S.tksz, S.fresh⟩
  · simp only [alook_aset] at hl
    split at hl
    · rw [ho] at hl; cases hl
    · exact S.tks i t hl
  · simp only [alook_aset] at hl
    split at hl
    · rename_i he
      subst he
      rw [ho] at hl; cases hl
      exact ⟨hF, MapAt.put hp b es ck h1 h2 h3 h5 h6 hP⟩
    · exact S.mps i s ks hl
/-- A map's entries in another order. -/
theorem AWP_perm {c : Code} {id : Int} {sh : KSh} {kvs kvs' : List (AV × AV)} (hp : sh.plain = true) (ho : alook toks id = some (.mp sh kvs)) (hP : kvs.Perm kvs') (ht : asetF toks id (.mp sh kvs') = some toks') (h : AWP P c sl ⟨objs, toks', next⟩ Q) : AWP P c sl ⟨objs, toks, next⟩ Q := by
  intro base Fi M0 w0 M a w hst hr
  have S := hr.2.2
  rw [← asetF_ok ht] at h
  obtain ⟨hF, hA⟩ := S.mps id _ kvs ho
  obtain ⟨b, es, ck, kvs0, h1, h2, h3, h5, h6, h7⟩ := hA.get hp
  refine h base Fi M0 w0 M a w hst ⟨hr.1, hr.2.1, S.base_le, S.obs, fun i t hl => ?_, fun i s ks hl => ?_, S.inj, S.dis, S.tinj, S.obsz, S.tksz, S.fresh⟩
  · simp only [alook_aset] at hl
    split at hl
    · rw [ho] at hl; cases hl
    · exact S.tks i t hl
  · simp only [alook_aset] at hl
    split at hl
    · rename_i he
      subst he
      rw [ho] at hl; cases hl
      exact ⟨hF, MapAt.put hp b es ck h1 h2 h3 h5 h6 (h7.trans hP)⟩
    · exact S.mps i s ks hl
/-- range m. -/
theorem S_range {t k e : TypeId} {sh : KSh} [T : TyMap P t k e] {id : Int} {kvs : List (AV × AV)} {mb c : Nat} {bs : List Nat} {nx : Int} (hx : aev sl x = .map id) (ho : alook toks id = some (.mp (.st sh mb bs c) kvs)) (hs : aput sl dst (.ptr next 0) = sl') (hn : next + 1 = nx) (h : AOPS P ops r sl' ⟨objs, (next, .mp (.itr mb c [] c) []) :: toks, nx⟩ Q) : AOPS P ops (⟨dst, .range t x, ty, pos, after, none⟩ :: r) sl ⟨objs, toks, next⟩ Q :=
  AOPS_eff (av := .ptr next 0) rfl (fun base Fi M a w hr => by
    have S := hr.2.2
    have hm := ev1 hr.2.1 hx
    unfold Reps at hm
    obtain ⟨b, hb, hm⟩ := hm
    obtain ⟨hF, b', o, h1, h2, h3, h4⟩ := S.mps id _ kvs ho
    rw [hb] at h1; cases h1
    obtain ⟨rfl, es, rfl, h5, h6, h7⟩ := h4.ofSt
    have T2 := Stp.newObj S (.mapIter (some b) c #[] c)
    subst hn
    refine ⟨.pointer (some ⟨w.heap.size, 0, none⟩), w.alloc (.mapIter (some b) c #[] c), M.obj next w.heap.size, .inl ?_, ?_, ?_, T2⟩
    · simp only [execOp, hm, Sem.run_bind, run_range_map w t k e b es c T.und h3, Result.andThen_ok, Sem.run_pure]
    · unfold Reps; exact ⟨w.heap.size, by simp [MM.obj], rfl⟩
    · have hsz : (w.alloc (.mapIter (some b) c #[] c)).heap.size = w.heap.size + 1 := by simp
      have N := St.newObj S (cells := []) (vs := #[]) RepsL.nil 0
      have hold : ∀ q, q < w.heap.size → (w.alloc (.mapIter (some b) c #[] c)).heap[q]? = w.heap[q]? := fun q hq => Below.heap_alloc w _ q hq
      refine ⟨by have := S.base_le; omega, fun i cs hl => ?_, fun i top hl => ?_, fun i s ks hl => ?_, N.inj, N.dis, N.tinj, fun i q h => by rw [hsz]; have := N.obsz i q h; simpa using this, fun i Tk q e ce h1 h2 => by rw [hsz]; have := N.tksz i Tk q e ce h1 h2; simpa using this, N.fresh⟩
      · obtain ⟨g1, q, us, e', g2, g3, g4, g5⟩ := S.obs i cs hl
        exact ⟨g1, q, us, e', T2.ob _ _ g2, g3, by rw [hold q (S.obsz i q g2)]; exact g4, RepsL.stp T2 _ _ g5⟩
      · simp only [alook] at hl
        split at hl
        · cases hl
        · obtain ⟨g1, Tk, g2, g3, g4⟩ := S.tks i top hl
          refine ⟨g1, Tk, g2, g3, fun q e2 ce hq => ?_⟩
          obtain ⟨g5, g6⟩ := g4 q e2 ce hq
          exact ⟨g5, g6.heap (hold q (S.tksz i Tk q e2 ce g2 hq))⟩
      · simp only [alook] at hl
        split at hl
        · rename_i he
          subst he
          cases hl
          exact ⟨(S.fresh _ (Int.le_refl _)).2.2, w.heap.size, _, by simp [MM.obj], S.base_le, heap_alloc_new w _, rfl, rfl⟩
        · exact ⟨(S.mps i s ks hl).1, (S.mps i s ks hl).2.stp T2 fun q o h1 h2 _ => by rw [hold q (S.obsz i q h1)]; exact h2⟩) hs h
/-- A range's step. -/
theorem S_next {id it : Int} {sh : KSh} {kvs : List (AV × AV)} {mb since last c : Nat} {bs seen : List Nat} (hx : aev sl x = .ptr it 0) (hm : alook toks id = some (.mp (.st sh mb bs c) kvs)) (ho : alook toks it = some (.mp (.itr mb since seen last) []))
    (hg : seen = [] ∨ bs = [] ∨ ∃ b ∈ bs, b < last)
    (h0 : (∀ b ∈ bs, b < since → b ∈ seen) → AOPS P ops r (aput sl dst (.tup [.bool false])) ⟨objs, toks, next⟩ Q)
    (h1 : ∀ (i : Nat) (b : Nat) (ka va : AV), kvs[i]? = some (ka, va) → bs[i]? = some b → b ∉ seen → AOPS P ops r (aput sl dst (.tup [.bool true, ka, va])) ⟨objs, aset toks it (.mp (.itr mb since (seen ++ [b]) c) []), next⟩ Q) : AOPS P ops (⟨dst, .next x false, ty, pos, after, none⟩ :: r) sl ⟨objs, toks, next⟩ Q := by
  refine AOPS_any rfl (fun av σ' => (av = .tup [.bool false] ∧ σ' = ⟨objs, toks, next⟩ ∧ ∀ b ∈ bs, b < since → b ∈ seen) ∨ ∃ (i : Nat) (b : Nat) (ka va : AV), kvs[i]? = some (ka, va) ∧ bs[i]? = some b ∧ b ∉ seen ∧ av = .tup [.bool true, ka, va] ∧ σ' = ⟨objs, aset toks it (.mp (.itr mb since (seen ++ [b]) c) []), next⟩) (fun base Fi M a w hr => ?_) (fun av σ' hk => ?_)
  · have S := hr.2.2
    have hp := ev1 hr.2.1 hx
    unfold Reps at hp
    obtain ⟨rb, hrb, hp⟩ := hp
    obtain ⟨_, b1, o1, g1, g2, g3, g4⟩ := S.mps id _ kvs hm
    obtain ⟨rfl, es, rfl, g5, g6, g7⟩ := g4.ofSt
    obtain ⟨_, b2, o2, k1, k2, k3, k4⟩ := S.mps it _ [] ho
    rw [hrb] at k1; cases k1
    obtain ⟨_, rfl⟩ := k4
    have ht : (!seen.toArray.isEmpty && !es.isEmpty && es.all (fun x => decide (x.born ≥ last))) = false := by
      rcases hg with rfl | hb | ⟨b, hb, hl⟩
      · simp
      · have : es = #[] := by
          rw [← g7] at hb
          simpa using hb
        subst this
        simp
      · rw [← g7] at hb
        obtain ⟨e, he, rfl⟩ := List.mem_map.1 hb
        have : es.all (fun x => decide (x.born ≥ last)) = false := by
          rw [Bool.eq_false_iff]
          intro h
          rw [Array.all_eq_true_iff_forall_mem] at h
          have := h e (Array.mem_toList_iff.1 he)
          simp at this
          omega
        simp [this]
    have hex : ∀ (v : Value) (w' : World), (Instr.next (.pointer (some ⟨rb, 0, none⟩)) false ty).run P w = .ok v w' → (execOp a.eval ⟨dst, .next x false, ty, pos, after, none⟩).run P w = .ok (.value v) w' := fun v w' h => by
      simp only [execOp, hp, Sem.run_bind, h, Result.andThen_ok, Sem.run_pure]
    rcases run_next_gen (P := P) w ty rb b1 since last seen.toArray es c k3 g3 ht with ⟨q1, w1, hal, q2⟩ | ⟨e, he, hs, w1, hal, q2⟩
    · obtain ⟨N, NT⟩ := (grew_alt hal).st2 S
      refine ⟨_, _, .inl ⟨rfl, rfl, fun b hb hlt => ?_⟩, _, w1, M, .inl (hex _ _ q2), ?_, N, NT⟩
      · rw [← g7] at hb
        obtain ⟨e, he, rfl⟩ := List.mem_map.1 hb
        have := q1 e he hlt
        simpa using this
      · unfold Reps; exact ⟨_, rfl, RepsL.one Reps_bool⟩
    · obtain ⟨N, NT⟩ := (grew_alt hal).st2 S
      obtain ⟨i, hi⟩ := List.getElem?_of_mem he
      have hil : i < kvs.length := by rw [← g6.1]; exact (List.getElem?_eq_some_iff.1 hi).1
      obtain ⟨p1, p2, p3, p4⟩ := g6.2 i _ e (List.getElem?_eq_getElem hil) hi
      have hk1 : w1.heap[rb]? = some (.mapIter (some b1) since seen.toArray last) := by rcases hal with rfl | rfl <;> exact k3
      obtain ⟨N2, NT2⟩ := setObj_ok (kvs' := []) (sh' := .itr b1 since (seen ++ [e.born]) c) N ho hrb hk1 (show MapIs M w1 [] rb (.mapIter (some b1) since (seen.toArray.push e.born) c) _ from ⟨rfl, by simp⟩)
      refine ⟨_, _, .inr ⟨i, e.born, kvs[i].1, kvs[i].2, List.getElem?_eq_getElem hil, by rw [← g7, List.getElem?_map, hi]; rfl, by simpa using hs, rfl, rfl⟩, _, _, M, .inl (hex _ _ q2), ?_, N2, NT.trans NT2⟩
      unfold Reps
      refine ⟨_, rfl, RepsL.cons Reps_bool (RepsL.cons ?_ (RepsL.one ?_))⟩
      · exact Reps.stp (NT.trans NT2) _ _ p1
      · exact Reps.stp (NT.trans NT2) _ _ p2
  · rcases hk with ⟨rfl, rfl, hd⟩ | ⟨i, b, ka, va, q1, q2, q3, rfl, rfl⟩
    · exact h0 hd
    · exact h1 i b ka va q1 q2 q3
/-- The step's key and value. -/
theorem S_entry {id it : Int} {sh : KSh} {kvs : List (AV × AV)} {mb since c b i : Nat} {bs seen : List Nat} {ka va : AV} (hx : aev sl x = .ptr it 0) (hm : alook toks id = some (.mp (.st sh mb bs c) kvs)) (ho : alook toks it = some (.mp (.itr mb since (seen ++ [b]) c) [])) (hk : kvs[i]? = some (ka, va)) (hbi : bs[i]? = some b) (hs : aput sl dst (.tup [ka, va]) = sl') (h : AOPS P ops r sl' ⟨objs, toks, next⟩ Q) : AOPS P ops (⟨dst, .entry x, ty, pos, after, none⟩ :: r) sl ⟨objs, toks, next⟩ Q :=
  AOPS_eff (av := .tup [ka, va]) rfl (fun base Fi M a w hr => by
    have S := hr.2.2
    have hp := ev1 hr.2.1 hx
    unfold Reps at hp
    obtain ⟨rb, hrb, hp⟩ := hp
    obtain ⟨_, b1, o1, g1, g2, g3, g4⟩ := S.mps id _ kvs hm
    obtain ⟨rfl, es, rfl, g5, g6, g7⟩ := g4.ofSt
    obtain ⟨_, b2, o2, k1, k2, k3, k4⟩ := S.mps it _ [] ho
    rw [hrb] at k1; cases k1
    obtain ⟨_, rfl⟩ := k4
    rw [← g7, List.getElem?_map] at hbi
    cases he : es.toList[i]? with
    | none => rw [he] at hbi; cases hbi
    | some e =>
      rw [he] at hbi
      simp only [Option.map_some, Option.some.injEq] at hbi
      subst hbi
      obtain ⟨p1, p2, p3, p4⟩ := g6.2 i _ e hk he
      have hk3 : w.heap[rb]? = some (.mapIter (some b1) since (seen.toArray.push e.born) c) := by simpa using k3
      have hrun := run_entry_at (P := P) w rb b1 since seen.toArray es c e hk3 g3 (List.mem_of_getElem? he) ((Go.MapKept.stamped_iff es c).1 g5).2.1
      refine ⟨.tuple #[e.key, e.val], w, M, .inl ?_, ?_, S, Stp.refl _ _ _ _⟩
      · simp only [execOp, hp, Sem.run_bind, hrun, Result.andThen_ok, Sem.run_pure]
      · unfold Reps; exact ⟨_, rfl, RepsL.cons p1 (RepsL.one p2)⟩) hs h
/-! ### delete -/
theorem run_delete_at {t k e ty : TypeId} [T : TyMap P t k e] {b : Nat} {es : Array MapEntry} {c : Nat} {v : Value} {j : Nat} {u : Value} (hb : w.heap[b]? = some (.map es c)) (hc : (Instr.checkKey es.isEmpty 10000 k v).run P w = .ok () w) (hf : (Instr.findKey k v es.toList).run P w = .ok (some (j, u)) w) : (Builtin.delete_ #[t, k] ty #[.map (some b), v]).run P w = .ok (.tuple #[]) { w with heap := w.heap.setIfInBounds b (.map (es.eraseIdxIfInBounds j) c) } := by
  simp [Builtin.delete_, run_underlying T.und, MapKept.run_getObj_map hb, hc, hf, MapKept.run_setObj_map _ hb, Result.andThen]
theorem run_delete_no {t k e ty : TypeId} [T : TyMap P t k e] {b : Nat} {es : Array MapEntry} {c : Nat} {v : Value} (hb : w.heap[b]? = some (.map es c)) (hc : (Instr.checkKey es.isEmpty 10000 k v).run P w = .ok () w) (hf : (Instr.findKey k v es.toList).run P w = .ok none w) : (Builtin.delete_ #[t, k] ty #[.map (some b), v]).run P w = .ok (.tuple #[]) { w with heap := w.heap.setIfInBounds b (.map es c) } := by
  simp [Builtin.delete_, run_underlying T.und, MapKept.run_getObj_map hb, hc, hf, MapKept.run_setObj_map _ hb, Result.andThen]
theorem MapRel.erase {sh : KSh} {kvs : List (AV × AV)} {es : Array MapEntry} (h : MapRel M w sh kvs es.toList) (j : Nat) (hj : j < kvs.length) : MapRel M w sh (kvs.eraseIdx j) (es.eraseIdxIfInBounds j).toList ∧ (es.eraseIdxIfInBounds j).toList.map MapEntry.born = (es.toList.map MapEntry.born).eraseIdx j := by
  have hl : (es.eraseIdxIfInBounds j).toList = es.toList.eraseIdx j := by
    unfold Array.eraseIdxIfInBounds
    rw [dif_pos (by have := h.1; simp at this; omega)]
    simp
  rw [hl]
  refine ⟨⟨?_, fun i p e hp he => ?_⟩, ?_⟩
  · rw [List.length_eraseIdx, List.length_eraseIdx, h.1]
  · rw [List.getElem?_eraseIdx] at hp he
    split at hp
    · rename_i hi
      rw [if_pos hi] at he
      exact h.2 _ _ _ hp he
    · rename_i hi
      rw [if_neg hi] at he
      exact h.2 _ _ _ hp he
  · apply List.ext_getElem?
    intro i
    rw [List.getElem?_map, List.getElem?_eraseIdx, List.getElem?_eraseIdx]
    split <;> rw [List.getElem?_map]
/-- delete(m, k), where k is. -/
theorem S_delete_at {t k e : TypeId} {sh : KSh} [T : TyMap P t k e] [K : TyKey P k sh] {id : Int} {ka va : AV} {kvs kl kr : List (AV × AV)} (hx : aev sl x = .map id) (hy : aevo sl y = some ka) (ho : alook toks id = some (.mp sh kvs)) (hk : sh.fit ka = true) (hm : kvs = kl ++ (ka, va) :: kr) (ht : asetF toks id (.mp sh (kl ++ kr)) = some toks') (hs : aput sl dst (.tup []) = sl') (h : AOPS P ops r sl' ⟨objs, toks', next⟩ Q) : AOPS P ops (⟨dst, .call { callee := .builtin .delete, args := #[x, y], argTypes := #[t, k] }, ty, pos, after, none⟩ :: r) sl ⟨objs, toks, next⟩ Q :=
  AOPS_eff (av := .tup []) rfl (fun base Fi M a w hr => by
    have h1 := ev1 hr.2.1 hx
    have h2 := ev1 hr.2.1 (aevo_eq hy)
    unfold Reps at h1
    obtain ⟨b, hb, hmv⟩ := h1
    obtain ⟨b', es, c, kvs0, g1, g2, g3, g4, g5, hP⟩ := (hr.2.2.mps id sh kvs ho).2.get K.plain
    rw [hb] at g1; cases g1
    subst hm
    have hin : (ka, va) ∈ kvs0 := hP.mem_iff.2 (by simp)
    rcases g5.find (P := P) (k := k) hk h2 with ⟨_, _, g⟩ | ⟨i, en, p, q1, q2, q3, q4, q5, _⟩
    · exact absurd rfl (g _ hin)
    · obtain ⟨j, hj⟩ := List.getElem?_of_mem hin
      obtain rfl := g5.pairs g4 hj q4 q5.symm
      have hrun := run_delete_at (t := t) (ty := ty) g3 (run_checkKey_ hk h2 _) q1
      obtain ⟨N, NT⟩ := setMap_ok (kvs' := kl ++ kr) hr.2.2 K.plain ho hb g3 (Go.MapKept.stamped_erase g4 j) (g5.erase j (List.getElem?_eq_some_iff.1 hj).1).1 (by rw [List.eraseIdx_eq_take_drop_succ]; exact perm_split hP hj)
      rw [show aset toks id (.mp sh (kl ++ kr)) = toks' from asetF_ok ht] at N
      exact ⟨.tuple #[], _, M, .inl (by simp [execOp, resolve, invoke, builtin, hmv, hrun, Result.andThen]), by unfold Reps; exact ⟨#[], rfl, RepsL.nil⟩, N, NT⟩) hs h
/-- delete(m, k), where k isn't. -/
theorem S_delete_no {t k e : TypeId} {sh : KSh} [T : TyMap P t k e] [K : TyKey P k sh] {id : Int} {ka : AV} {kvs : List (AV × AV)} (hx : aev sl x = .map id) (hy : aevo sl y = some ka) (ho : alook toks id = some (.mp sh kvs)) (hk : sh.fit ka = true) (hm : ∀ p ∈ kvs, p.1 ≠ ka) (ht : asetF toks id (.mp sh kvs) = some toks') (hs : aput sl dst (.tup []) = sl') (h : AOPS P ops r sl' ⟨objs, toks', next⟩ Q) : AOPS P ops (⟨dst, .call { callee := .builtin .delete, args := #[x, y], argTypes := #[t, k] }, ty, pos, after, none⟩ :: r) sl ⟨objs, toks, next⟩ Q :=
  AOPS_eff (av := .tup []) rfl (fun base Fi M a w hr => by
    have h1 := ev1 hr.2.1 hx
    have h2 := ev1 hr.2.1 (aevo_eq hy)
    unfold Reps at h1
    obtain ⟨b, hb, hmv⟩ := h1
    obtain ⟨b', es, c, kvs0, g1, g2, g3, g4, g5, hP⟩ := (hr.2.2.mps id sh kvs ho).2.get K.plain
    rw [hb] at g1; cases g1
    rcases g5.find (P := P) (k := k) hk h2 with ⟨q1, _, _⟩ | ⟨i, en, p, q1, q2, q3, q4, q5, _⟩
    · have hrun := run_delete_no (t := t) (ty := ty) g3 (run_checkKey_ hk h2 _) q1
      obtain ⟨N, NT⟩ := setMap_ok hr.2.2 K.plain ho hb g3 g4 g5 hP
      rw [show aset toks id (.mp sh kvs) = toks' from asetF_ok ht] at N
      exact ⟨.tuple #[], _, M, .inl (by simp [execOp, resolve, invoke, builtin, hmv, hrun, Result.andThen]), by unfold Reps; exact ⟨#[], rfl, RepsL.nil⟩, N, NT⟩
    · exact absurd q5 (hm p (hP.mem_iff.1 (List.mem_of_getElem? q4)))) hs h
/-! ### Maps under way -/
/-- delete(m, k), where k is, of a map that is ranged over. -/
theorem S_delete_st {t k e : TypeId} {sh : KSh} [T : TyMap P t k e] [K : TyKey P k sh] {id : Int} {ka va : AV} {kvs : List (AV × AV)} {mb c : Nat} {bs : List Nat} {j : Nat} (hx : aev sl x = .map id) (hy : aevo sl y = some ka) (ho : alook toks id = some (.mp (.st sh mb bs c) kvs)) (hk : sh.fit ka = true) (hm : kvs[j]? = some (ka, va)) (ht : asetF toks id (.mp (.st sh mb (bs.eraseIdx j) c) (kvs.eraseIdx j)) = some toks') (hs : aput sl dst (.tup []) = sl') (h : AOPS P ops r sl' ⟨objs, toks', next⟩ Q) : AOPS P ops (⟨dst, .call { callee := .builtin .delete, args := #[x, y], argTypes := #[t, k] }, ty, pos, after, none⟩ :: r) sl ⟨objs, toks, next⟩ Q :=
  AOPS_eff (av := .tup []) rfl (fun base Fi M a w hr => by
    have h1 := ev1 hr.2.1 hx
    have h2 := ev1 hr.2.1 (aevo_eq hy)
    unfold Reps at h1
    obtain ⟨b, hb, hmv⟩ := h1
    obtain ⟨b', o, g1, g2, g3, g4⟩ := (hr.2.2.mps id _ kvs ho).2
    rw [hb] at g1; cases g1
    obtain ⟨rfl, es, rfl, g5, g6, g7⟩ := g4.ofSt
    rcases g6.find (P := P) (k := k) hk h2 with ⟨_, _, g⟩ | ⟨i, en, p, q1, q2, q3, q4, q5, _⟩
    · exact absurd rfl (g _ (List.mem_of_getElem? hm))
    · obtain rfl := g6.pairs g5 hm q4 q5.symm
      have hrun := run_delete_at (t := t) (ty := ty) g3 (run_checkKey_ hk h2 _) q1
      have hE := g6.erase j (List.getElem?_eq_some_iff.1 hm).1
      obtain ⟨N, NT⟩ := setObj_ok (sh' := .st sh b (bs.eraseIdx j) c) (kvs' := kvs.eraseIdx j) hr.2.2 ho hb g3 ⟨rfl, _, rfl, Go.MapKept.stamped_erase g5 j, hE.1, by rw [hE.2, g7]⟩
      rw [show aset toks id (.mp (.st sh b (bs.eraseIdx j) c) (kvs.eraseIdx j)) = toks' from asetF_ok ht] at N
      exact ⟨.tuple #[], _, M, .inl (by simp [execOp, resolve, invoke, builtin, hmv, hrun, Result.andThen]), by unfold Reps; exact ⟨#[], rfl, RepsL.nil⟩, N, NT⟩) hs h
/-- A new key in a map that is ranged over. -/
theorem S_mapUpdate_st_new {t k e : TypeId} {sh : KSh} [T : TyMap P t k e] [K : TyKey P k sh] {id : Int} {ka xa xb : AV} {kvs : List (AV × AV)} {mb c : Nat} {bs : List Nat} (hx : aev sl x = .map id) (hy : aevo sl y = some ka) (hz : aevo sl z = some xa) (ho : alook toks id = some (.mp (.st sh mb bs c) kvs)) (hk : sh.fit ka = true) (hm : ∀ p ∈ kvs, p.1 ≠ ka) (hw : xa.wk = xb) (hsh : xb.shut = true) (ht : asetF toks id (.mp (.st sh mb (bs ++ [c]) (c + 1)) (kvs ++ [(ka, xb)])) = some toks') (hs : aput sl dst .und = sl') (h : AOPS P ops r sl' ⟨objs, toks', next⟩ Q) : AOPS P ops (⟨dst, .mapUpdate t x y z, ty, pos, after, none⟩ :: r) sl ⟨objs, toks, next⟩ Q :=
  AOPS_eff (av := .und) rfl (fun base Fi M a w hr => by
    have h1 := ev1 hr.2.1 hx
    have h2 := ev1 hr.2.1 (aevo_eq hy)
    have h3 := hw ▸ Reps.wk _ _ (ev1 hr.2.1 (aevo_eq hz))
    unfold Reps at h1
    obtain ⟨b, hb, hmv⟩ := h1
    obtain ⟨b', o, g1, g2, g3, g4⟩ := (hr.2.2.mps id _ kvs ho).2
    rw [hb] at g1; cases g1
    obtain ⟨rfl, es, rfl, g5, g6, g7⟩ := g4.ofSt
    rcases g6.find (P := P) (k := k) hk h2 with ⟨g, gk, _⟩ | ⟨j, en, p, _, _, _, q4, q5, _⟩
    · have hrun := run_mapUpdate_new (t := t) (u := a.eval z) g3 (run_checkKey_ hk h2 false) g
      have hrel : MapRel M w sh (kvs ++ [(ka, xb)]) (es.push ⟨a.eval y, a.eval z, c⟩).toList := by
        refine ⟨by simp [g6.1], fun i p e hp he => ?_⟩
        rw [Array.toList_push] at he
        by_cases hi : i < kvs.length
        · rw [List.getElem?_append_left hi] at hp
          rw [List.getElem?_append_left (by rw [g6.1]; exact hi)] at he
          exact g6.2 i p e hp he
        · rw [List.getElem?_append_right (by omega)] at hp
          rw [List.getElem?_append_right (by rw [g6.1]; omega), g6.1] at he
          obtain ⟨q1, q2⟩ := List.getElem?_eq_some_iff.1 hp
          have hi0 : i - kvs.length = 0 := by simpa using q1
          rw [hi0] at hp he
          cases hp; cases he
          exact ⟨h2, h3, hk, hsh⟩
      obtain ⟨N, NT⟩ := setObj_ok (sh' := .st sh b (bs ++ [c]) (c + 1)) (kvs' := kvs ++ [(ka, xb)]) hr.2.2 ho hb g3 ⟨rfl, _, rfl, Go.MapKept.stamped_push g5 gk, hrel, by rw [Array.toList_push, List.map_append, g7]; rfl⟩
      rw [show aset toks id (.mp (.st sh b (bs ++ [c]) (c + 1)) (kvs ++ [(ka, xb)])) = toks' from asetF_ok ht] at N
      exact ⟨undef, _, M, .inr ⟨by simp only [execOp, hmv, Sem.run_bind, hrun, Result.andThen_ok, Sem.run_pure], rfl⟩, by unfold Reps; rfl, N, NT⟩
    · exact absurd q5 (hm p (List.mem_of_getElem? q4))) hs h
/-! ### How many -/
theorem S_len_map {t k e : TypeId} {sh : KSh} [T : TyMap P t k e] (hp : sh.plain = true) {id : Int} {kvs : List (AV × AV)} (hx : aev sl x = .map id) (ho : alook toks id = some (.mp sh kvs)) (hs : aput sl dst (.int .i64 (kvs.length : Int)) = sl') (h : AOPS P ops r sl' ⟨objs, toks, next⟩ Q) : AOPS P ops (⟨dst, .call { callee := .builtin .len, args := #[x], argTypes := #[t] }, ty, pos, after, none⟩ :: r) sl ⟨objs, toks, next⟩ Q :=
  AOPS_eff (av := .int .i64 (kvs.length : Int)) rfl (fun base Fi M a w hr => by
    have h1 := ev1 hr.2.1 hx
    unfold Reps at h1
    obtain ⟨b, hb, hmv⟩ := h1
    obtain ⟨b', es, c, kvs0, g1, g2, g3, g4, g5, hP⟩ := (hr.2.2.mps id sh kvs ho).2.get hp
    rw [hb] at g1; cases g1
    have hl : es.size = kvs.length := by rw [← hP.length_eq, ← g5.1, Array.length_toList]
    refine ⟨.int .i64 (kvs.length : Int), w, M, .inl ?_, Reps_int, hr.2.2, Stp.refl _ _ _ _⟩
    simp [execOp, hmv, resolve, invoke, builtin, Builtin.len_, run_underlying T.und, MapKept.run_getObj_map g3, Result.andThen, goInt, hl]) hs h
end Go.Proofs.Ytnjkklkjlloedaa
