/- The abstract machine: append, slice and struct literals, bytes of a text, make. -/
import Derived.Test.YtnjkklkjlloedaaAm6
namespace Go.Proofs.Ytnjkklkjlloedaa
open Go.RowKit
set_option linter.unusedVariables false
set_option linter.unusedSimpArgs false

variable {base : Nat} {Fi : Int → Prop} {M M' M'' : MM} {w w' w'' : World}
variable {P : Program} {ops : Array Oper} {r : List Oper} {sl sl' : List AV} {σ σ' : ASt} {Q : Exit → List AV → ASt → Prop}
variable {d : Tmp} {dst : Option Tmp} {ty : TypeId} {pos : String} {after : Array Edge} {x y z : Operand} {gd : Option (Nat × Bool)} {op : Op}

/-! ### What is appended -/
def SrcOk (P : Program) (sz : Nat) (tx : TypeId) (av : AV) (cells : List AV) (m : Nat) : Prop := ∀ M w v, Reps M w av v → ∃ news, Src P sz tx v m news w ∧ RepsL M w cells news
theorem SrcOk_sl {sz by_ : Nat} {tx e : TypeId} {own : AOwn} {cells : List AV} {m : Nat} (T : TySl P tx e sz by_) (hl : cells.length = m * sz) (h1 : cells.all AV.one = true) : SrcOk P sz tx (.sl own cells m) cells m := by
  intro M w v h
  unfold Reps at h
  obtain ⟨A, c, vs, rfl, h2, h3, h4, h5, h6, h7, _⟩ := h
  have hvl := h6.length
  refine ⟨vs, Rd.src (A := A) (n := m) (c := c) ⟨by omega, h2, h3, h4, h5.imp id fun ⟨b, o, hA, hm⟩ => ⟨b, o, hA, fun j u hu => (hm j u hu).1⟩⟩ T.und (h6.ones h1), h6⟩
theorem SrcOk_nils {sz by_ : Nat} {tx e : TypeId} (T : TySl P tx e sz by_) : SrcOk P sz tx .nils [] 0 := by
  intro M w v h
  unfold Reps at h
  subst h
  exact ⟨[], Src.ofNil w T.und 0, RepsL.nil⟩
theorem SrcOk_str {tx : TypeId} {s : List UInt8} (T : TyStr P tx) : SrcOk P 1 tx (.str s) (s.map bvA) s.length := by
  intro M w v h
  unfold Reps at h
  obtain ⟨rfl, _⟩ := h
  have := Src.ofString (P := P) w T.und ⟨s.toArray⟩
  rw [ba_size] at this
  have hb : byteCells ⟨s.toArray⟩ = bvs s := by simp only [byteCells, bvs]; rfl
  exact ⟨_, this, by rw [hb]; exact bvA_reps s⟩

theorem grow_core (S : St base Fi M w σ) {t e tx : TypeId} {sz by_ : Nat} [T : TySl P t e sz by_] {A : Option Addr} {n c m : Nat} {vs news : List Value} {cells cells2 : List AV} {xv : Value} (hn : n ≤ c) (hc : c ≤ maxLen)
    (h6 : n = 0 ∨ ∃ b o, A = some ⟨b, o, none⟩ ∧ Mem M w b o vs) (hA : A = none → c = 0) (h7 : RepsL M w cells vs) (hlen : cells.length = n * sz) (hsrc : Src P sz tx xv m news w) (h8 : RepsL M w cells2 news) (hgrow : c < n + m) (h63 : n + m ≤ maxLen) (hbytes : (n + m) * by_ ≤ 140737488355328)
    {id : Int} {top' : Nat} (hid : id = σ.next ∨ ∃ T0, M.tk id = some T0 ∧ sz = T0.sz ∧ T0.top < top' ∧ ¬ Fi id) {toks : List (Int × Nat)} {next : Int} (ht : ∀ i top, alook toks i = some top → (i = id ∧ top = top') ∨ (i ≠ id ∧ alook σ.toks i = some top)) (hnx : σ.next ≤ next) (hn2 : id < next) :
    ∃ v w' M', (Builtin.append_ #[t, tx] ty #[.slice A n c, xv]).run P w = .ok v w' ∧ Reps M' w' (.sl (.tok id top' sz) (cells ++ cells2) (n + m)) v ∧ St base Fi M' w' ⟨σ.objs, toks, next⟩ ∧ Stp base Fi M w M' w' := by
  obtain ⟨i, z, hi, hz, hsz, hby, hzs⟩ := T.info
  subst hsz hby
  have hvl : vs.length = n * i.size := by rw [h7.length, hlen]
  have hold : (Builtin.firstCells i.size n (.slice A n c)).run P w.drew = .ok vs.toArray w.drew := by
    cases A with
    | none =>
      have := hA rfl
      obtain rfl : n = 0 := by omega
      obtain rfl : vs = [] := List.eq_nil_of_length_eq_zero (by simpa using hvl)
      exact run_firstCells_none w.drew i.size 0 0 c
    | some a =>
      refine run_firstCells_some w.drew i.size n a n c vs hvl (fun j v hj => ?_)
      rcases h6 with rfl | ⟨b, o, hA', hm⟩
      · obtain rfl : vs = [] := List.eq_nil_of_length_eq_zero (by simpa using hvl)
        simp at hj
      · cases hA'; rw [addr_add]; exact (hm j v hj).1
  have hfit := growslice_fits (need := n + m) (old := c) (bytes := i.bytes) hgrow hbytes
  have hrun := run_append_grow_src w t tx ty e i z T.und hi hz A n c vs hold xv m news hsrc hgrow (by simp only [maxLen] at h63; omega) hfit
  have hge := grownCap_ge w (n + m) c e
  have hcm : grownCap w (n + m) c e ≤ maxLen := grownCap_le_maxLen w (n + m) c e h63
  generalize hcap : grownCap w (n + m) c e = cap at hrun hge hcm
  generalize hcs : ((vs ++ news).toArray ++ Builtin.zeroCells z.cells (cap - (n + m))) = CS at hrun
  have hsize : CS.size = cap * i.size := by
    subst hcs
    have hl : (vs ++ news).length = (n + m) * i.size := by rw [List.length_append, hvl, hsrc.newsLen, Nat.add_mul]
    simp only [Array.size_append, List.size_toArray, size_zeroCells, hzs, hl, ← Nat.add_mul]
    congr 1; omega
  have hnew : (w.drew.alloc (.cells CS e)).heap[w.heap.size]? = some (.cells CS e (0, 0)) := heap_alloc_new w.drew _
  have hcell : ∀ j, (w.drew.alloc (.cells CS e)).cell? ⟨w.heap.size, j, none⟩ = CS[j]? := fun j => by rw [World.cell?]; simp only [hnew]; rfl
  have hG := Grew.drew_alloc w (.cells CS e)
  have hlen2 : (cells ++ cells2).length = (n + m) * i.size := by rw [List.length_append, hlen, ← h8.length, hsrc.newsLen, Nat.add_mul]
  have hT := hG.tok S (id := id) (T := ⟨i.size, top', some (w.heap.size, (n + m) * i.size, cap * i.size)⟩) hid (fun b e' ce h => by cases h; exact Nat.le_refl _)
  refine ⟨_, _, M.tok id ⟨i.size, top', some (w.heap.size, (n + m) * i.size, cap * i.size)⟩, hrun, ?_, hG.tok_st S hid (fun b e' ce h => ?_) ht hnx hn2, hT⟩
  · unfold Reps
    refine ⟨_, cap, vs ++ news, rfl, hge, hcm, (fun h => by cases h), .inr ⟨w.heap.size, 0, rfl, fun j u hu => ?_⟩, (RepsL.stp hT _ _ h7).append (RepsL.stp hT _ _ h8), ?_, ?_⟩
    · rw [Nat.zero_add]
      have hj := (List.getElem?_eq_some_iff.1 hu).1
      refine ⟨?_, ?_, ?_⟩
      · rw [hcell, ← hcs, Array.getElem?_append_left (by simpa using hj)]
        simpa using hu
      · intro id' h; have := S.obsz id' _ h; omega
      · intro id' T2 e' ce h1 h2
        simp only [MM.tok] at h1
        split at h1
        · cases h1; simp at h2; obtain ⟨rfl, rfl⟩ := h2
          rw [List.length_append, hvl, hsrc.newsLen, ← Nat.add_mul] at hj; exact hj
        · have := S.tksz id' T2 _ e' ce h1 h2; omega
    · intro h0; exact List.eq_nil_of_length_eq_zero (by rw [hlen2, h0, Nat.zero_mul])
    · exact ⟨⟨i.size, top', some (w.heap.size, (n + m) * i.size, cap * i.size)⟩, by simp [MM.tok], rfl, Nat.le_refl _, hlen2, fun _ => ⟨0, rfl, by rw [Nat.zero_add]; exact hlen2, by simp⟩⟩
  · cases h
    exact ⟨Nat.le_refl _, by show w.heap.size < (w.heap.push _).size; simp, CS, e, hnew, by rw [hsize]; exact Nat.le_refl _⟩

/-- append onto what has no room: nil, or a slice whose capacity is its length. -/
theorem append_new (S : St base Fi M w σ) {t e tx : TypeId} {sz by_ : Nat} [T : TySl P t e sz by_] {A : Option Addr} {n m : Nat} {vs news : List Value} {cells cells2 : List AV} {xv : Value} (hc : n ≤ maxLen)
    (h6 : n = 0 ∨ ∃ b o, A = some ⟨b, o, none⟩ ∧ Mem M w b o vs) (hA : A = none → n = 0) (h7 : RepsL M w cells vs) (hlen : cells.length = n * sz) (hsrc : Src P sz tx xv m news w) (h8 : RepsL M w cells2 news) (h63 : n + m ≤ maxLen) (hbytes : (n + m) * by_ ≤ 140737488355328) :
    ∃ v w' M', (Builtin.append_ #[t, tx] ty #[.slice A n n, xv]).run P w = .ok v w' ∧ Reps M' w' (.sl (.tok σ.next (n + m) sz) (cells ++ cells2) (n + m)) v ∧ St base Fi M' w' ⟨σ.objs, (σ.next, n + m) :: σ.toks, σ.next + 1⟩ ∧ Stp base Fi M w M' w' := by
  have ht : ∀ i top, alook ((σ.next, n + m) :: σ.toks) i = some top → (i = σ.next ∧ top = n + m) ∨ (i ≠ σ.next ∧ alook σ.toks i = some top) := by
    intro i top h
    simp only [alook] at h
    split at h
    · rename_i he; cases h; exact .inl ⟨he.symm, rfl⟩
    · rename_i he; exact .inr ⟨Ne.symm he, h⟩
  by_cases hm : m = 0
  · subst hm
    have hnews : news = [] := List.eq_nil_of_length_eq_zero (by have := hsrc.newsLen; omega)
    subst hnews
    have hc2 : cells2 = [] := List.eq_nil_of_length_eq_zero (by have := h8.length; simpa using this.symm)
    subst hc2
    obtain ⟨i, z, hi, hz, hsz, hby, hzs⟩ := T.info
    subst hsz
    have hT := (Grew.refl w).tok S (id := σ.next) (T := ⟨i.size, n + 0, none⟩) (.inl rfl) (fun b e' ce h => by cases h)
    refine ⟨_, w, M.tok σ.next ⟨i.size, n + 0, none⟩, run_append_nothing w t tx ty e i T.und hi A n n (Nat.le_refl _) xv hsrc, ?_, (Grew.refl w).tok_st S (.inl rfl) (fun b e' ce h => by cases h) ht (by omega) (by omega), hT⟩
    unfold Reps
    refine ⟨A, n, vs, rfl, by omega, hc, hA, ?_, by simpa using RepsL.stp hT _ _ h7, fun h0 => by rw [List.append_nil]; exact List.eq_nil_of_length_eq_zero (by rw [hlen]; simp at h0; rw [h0, Nat.zero_mul]), ?_⟩
    · rcases h6 with h0 | ⟨b, o, hA', hm⟩
      · exact .inl (by omega)
      · exact .inr ⟨b, o, hA', hm.stp hT⟩
    · exact ⟨⟨i.size, n + 0, none⟩, by simp [MM.tok], rfl, Nat.le_refl _, by simp [hlen], fun _ => by simp⟩
  · exact grow_core S (Nat.le_refl n) hc h6 hA h7 hlen hsrc h8 (by omega) h63 hbytes (.inl rfl) ht (by omega) (by omega)

theorem exec_append {a : Act} {t tx : TypeId} {u v xv : Value} {w w' : World} (hx : a.eval x = u) (hy : a.eval y = xv) (h : (Builtin.append_ #[t, tx] ty #[u, xv]).run P w = .ok v w') : (execOp a.eval ⟨dst, .call { callee := .builtin .append, args := #[x, y], argTypes := #[t, tx] }, ty, pos, after, none⟩).run P w = .ok (.value v) w' := by
  simp only [execOp, resolve, invoke, builtin, Sem.run_bind, Sem.run_pure, Result.andThen_ok, List.map_toArray, List.map_cons, List.map_nil, hx, hy, h]
theorem AOPS_append_nils {t e tx : TypeId} {sz by_ : Nat} {cells2 : List AV} {m : Nat} {av : AV} (hx : aev sl x = .nils) (hy : aev sl y = av) [T : TySl P t e sz by_] (hS : SrcOk P sz tx av cells2 m) (hb : m * by_ ≤ 140737488355328 ∧ m ≤ 1000000000000) (hs : aput sl dst (.sl (.tok σ.next m sz) cells2 m) = sl') (h : AOPS P ops r sl' ⟨σ.objs, (σ.next, m) :: σ.toks, σ.next + 1⟩ Q) : AOPS P ops (⟨dst, .call { callee := .builtin .append, args := #[x, y], argTypes := #[t, tx] }, ty, pos, after, none⟩ :: r) sl σ Q :=
  AOPS_eff (av := .sl (.tok σ.next m sz) cells2 m) rfl (fun base Fi M a w hr => by
    have h1 := ev1 hr.2.1 hx
    have h2 := ev1 hr.2.1 hy
    unfold Reps at h1
    obtain ⟨news, h3, h4⟩ := hS M w _ h2
    obtain ⟨v, w', M', h5, h6, h7, h8⟩ := append_new (ty := ty) hr.2.2 (A := none) (n := 0) (vs := []) (cells := []) (t := t) (by simp) (.inl rfl) (fun _ => rfl) RepsL.nil (by simp) h3 h4 (by simp only [maxLen]; omega) (by simpa using hb.1)
    simp only [Nat.zero_add, List.nil_append] at h6 h7
    exact ⟨v, w', M', .inl (exec_append h1 rfl h5), h6, h7, h8⟩) hs h
theorem AOPS_append_full {t e tx : TypeId} {sz by_ : Nat} {cells cells2 : List AV} {n m : Nat} {av : AV} (hx : aev sl x = .sl .full cells n) (hy : aev sl y = av) [T : TySl P t e sz by_] (hS : SrcOk P sz tx av cells2 m) (hl : cells.length = n * sz) (hb : (n + m) * by_ ≤ 140737488355328 ∧ n + m ≤ 1000000000000) (hs : aput sl dst (.sl (.tok σ.next (n + m) sz) (cells ++ cells2) (n + m)) = sl') (h : AOPS P ops r sl' ⟨σ.objs, (σ.next, n + m) :: σ.toks, σ.next + 1⟩ Q) : AOPS P ops (⟨dst, .call { callee := .builtin .append, args := #[x, y], argTypes := #[t, tx] }, ty, pos, after, none⟩ :: r) sl σ Q :=
  AOPS_eff (av := .sl (.tok σ.next (n + m) sz) (cells ++ cells2) (n + m)) rfl (fun base Fi M a w hr => by
    have h1 := ev1 hr.2.1 hx
    have h2 := ev1 hr.2.1 hy
    unfold Reps at h1
    obtain ⟨A, c, vs, h1, k2, k3, k4, k5, k6, k7, k8⟩ := h1
    simp only [OwnOk] at k8
    subst k8
    obtain ⟨news, h3, h4⟩ := hS M w _ h2
    obtain ⟨v, w', M', h5, h6, h7, h8⟩ := append_new (ty := ty) hr.2.2 (t := t) k3 k5 k4 k6 hl h3 h4 (by simp only [maxLen]; omega) hb.1
    exact ⟨v, w', M', .inl (exec_append h1 rfl h5), h6, h7, h8⟩) hs h
theorem E_append_tok {t e tx : TypeId} {sz by_ top : Nat} {id : Int} {cells cells2 : List AV} {n m : Nat} {av : AV} {toks' : List (Int × Nat)} (hx : aev sl x = .sl (.tok id top sz) cells n) (hy : aev sl y = av) [T : TySl P t e sz by_] (htk : alook σ.toks id = some top) (hS : SrcOk P sz tx av cells2 m) (hb : (n + m) * by_ ≤ 140737488355328 ∧ n + m ≤ 1000000000000) (ht : aset σ.toks id (top + m) = toks') : EffOk P ⟨dst, .call { callee := .builtin .append, args := #[x, y], argTypes := #[t, tx] }, ty, pos, after, none⟩ sl σ (.sl (.tok id (top + m) sz) (cells ++ cells2) (n + m)) ⟨σ.objs, toks', σ.next⟩ := fun base Fi M a w hr => by
    have h1 := ev1 hr.2.1 hx
    have h2 := ev1 hr.2.1 hy
    have S := hr.2.2
    subst ht
    unfold Reps at h1
    obtain ⟨A, c, vs, h1, k2, k3, k4, k5, k6, k7, T0, l1, l2, l3, l4, l5⟩ := h1
    obtain ⟨hF, T0', l6, l7, l8⟩ := S.tks id top htk
    rw [l1] at l6; cases l6
    have l5 := l5 l7.symm
    subst l2
    obtain ⟨news, h3, h4⟩ := hS M w _ h2
    have hnl := h3.newsLen
    have hidlt : id < σ.next := by
      refine Int.lt_of_not_ge fun hle => ?_
      rw [(S.fresh id hle).2.1] at l1; cases l1
    have htks : ∀ i tp, alook (aset σ.toks id (top + m)) i = some tp → (i = id ∧ tp = top + m) ∨ (i ≠ id ∧ alook σ.toks i = some tp) := by
      intro i tp h
      rw [alook_aset, htk] at h
      split at h
      · rename_i he; simp at h; exact .inl ⟨he.symm, h.symm⟩
      · rename_i he; exact .inr ⟨Ne.symm he, h⟩
    by_cases hm : m = 0
    · subst hm
      obtain rfl : news = [] := List.eq_nil_of_length_eq_zero (by omega)
      obtain rfl : cells2 = [] := List.eq_nil_of_length_eq_zero (by have := h4.length; simpa using this.symm)
      obtain ⟨i, z, hi, hz, hsz, hby, hzs⟩ := T.info
      rw [← hsz] at h3
      refine ⟨_, w, M, .inl (exec_append h1 rfl (run_append_nothing w t tx ty e i T.und hi A n c k2 _ h3)), ?_, ?_, Stp.refl _ _ _ _⟩
      · unfold Reps
        exact ⟨A, c, vs, rfl, k2, k3, k4, k5, by simpa using k6, by simpa using k7, T0, l1, rfl, by omega, by simpa using l4, fun _ => by simpa using l5⟩
      · refine ⟨S.base_le, S.obs, fun i tp h => ?_, S.inj, S.dis, S.tinj, S.obsz, S.tksz, S.fresh⟩
        rcases htks i tp h with ⟨rfl, rfl⟩ | ⟨_, h'⟩
        · exact S.tks i _ htk
        · exact S.tks i tp h'
    · by_cases hroom : n + m ≤ c
      · cases hblk : T0.blk with
        | none => rw [hblk] at l5; simp at l5; omega
        | some q =>
          obtain ⟨b, eo, ce⟩ := q
          rw [hblk] at l5
          obtain ⟨o, rfl, l9, l10⟩ := l5
          obtain ⟨l11, l12⟩ := l8 b eo ce hblk
          obtain ⟨i, z, hi, hz, hsz, hby, hzs⟩ := T.info
          have hle : o + n * T0.sz + news.length ≤ ce := by
            rw [hnl, ← l10, Nat.add_assoc, ← Nat.add_mul]; exact Nat.add_le_add_left (Nat.mul_le_mul_right _ hroom) _
          have heo : o + n * i.size = eo := by rw [hsz, ← l4]; exact l9
          have heo2 : o + n * T0.sz = eo := by rw [← l4]; exact l9
          have hle2 : eo + news.length ≤ ce := by rw [← heo2]; exact hle
          clear hle
          rw [← hsz] at h3
          have hrun := run_append_room_src w t tx ty e i T.und hi b o n c _ m news h3 hroom (fun j hj => by rw [heo]; exact (l12.cell (eo + j) (by omega)).1) (fun j hj => by rw [heo]; exact (l12.cell (eo + j) (by omega)).2)
          rw [heo] at hrun
          have hT := room_stp S htk l1 hblk news (m := m) (by omega)
          rw [l7] at hT
          have hSt := room_st S htk l1 hblk news (m := m) (by omega)
          rw [l7] at hSt
          refine ⟨_, _, _, .inl (exec_append h1 rfl hrun), ?_, hSt, hT⟩
          unfold Reps
          have hmem : n = 0 ∨ Mem M w b o vs := k5.imp (fun h => h) fun ⟨b', o', hA, hm⟩ => by cases hA; exact hm
          refine ⟨_, c, vs ++ news, rfl, hroom, k3, (fun h => by cases h), .inr ⟨b, o, rfl, fun j u hu => ?_⟩, (RepsL.stp hT _ _ k6).append (RepsL.stp hT _ _ h4), fun h0 => by omega, ?_⟩
          · have hvl : vs.length = n * T0.sz := by rw [k6.length, l4]
            by_cases hj : j < vs.length
            · rw [List.getElem?_append_left hj] at hu
              rcases hmem with rfl | hmem
              · rw [Nat.zero_mul] at hvl; omega
              · exact hT.cell b (o + j) u (hmem j u hu).2 (hmem j u hu).1
            · rw [List.getElem?_append_right (by omega)] at hu
              have hj' := (List.getElem?_eq_some_iff.1 hu).1
              have hin := World.cell?_setCells_in b news eo w (fun q hq => (l12.cell (eo + q) (by omega)).1) (j - vs.length) hj'
              rw [show eo + (j - vs.length) = o + j by omega] at hin
              refine ⟨by rw [hin]; rw [List.getElem?_eq_getElem hj'] at hu; exact hu, ?_, ?_⟩
              · intro id' h; exact (S.dis id' id b T0 eo ce h l1 hblk).elim
              · intro id' T2 e' ce' g1 g2
                simp only [MM.tok] at g1
                split at g1
                · cases g1; simp at g2; obtain ⟨rfl, rfl⟩ := g2; omega
                · rename_i hne; exact absurd (S.tinj id' id T2 T0 b e' ce' eo ce g1 l1 g2 hblk) hne
          · refine ⟨⟨T0.sz, top + m, some (b, eo + news.length, ce)⟩, by simp [MM.tok], rfl, Nat.le_refl _, ?_, fun _ => ⟨o, rfl, ?_, l10⟩⟩
            · simp only [List.length_append, l4, ← h4.length, hnl, Nat.add_mul]
            · simp only [List.length_append, l4, ← h4.length]; omega
      · obtain ⟨v, w', M', h5, h6, h7, h8⟩ := grow_core (ty := ty) S (t := t) k2 k3 k5 k4 k6 l4 h3 h4 (by omega) (by simp only [maxLen]; omega) hb.1 (id := id) (top' := top + m) (.inr ⟨T0, l1, rfl, by omega, hF⟩) (toks := aset σ.toks id (top + m)) (next := σ.next) htks (Int.le_refl _) hidlt
        exact ⟨v, w', M', .inl (exec_append h1 rfl h5), h6, h7, h8⟩
theorem AOPS_append_tok {t e tx : TypeId} {sz by_ top : Nat} {id : Int} {cells cells2 : List AV} {n m : Nat} {av : AV} {toks' : List (Int × Nat)} (hx : aev sl x = .sl (.tok id top sz) cells n) (hy : aev sl y = av) [T : TySl P t e sz by_] (htk : alook σ.toks id = some top) (hS : SrcOk P sz tx av cells2 m) (hb : (n + m) * by_ ≤ 140737488355328 ∧ n + m ≤ 1000000000000) (ht : aset σ.toks id (top + m) = toks') (hs : aput sl dst (.sl (.tok id (top + m) sz) (cells ++ cells2) (n + m)) = sl') (h : AOPS P ops r sl' ⟨σ.objs, toks', σ.next⟩ Q) : AOPS P ops (⟨dst, .call { callee := .builtin .append, args := #[x, y], argTypes := #[t, tx] }, ty, pos, after, none⟩ :: r) sl σ Q :=
  AOPS_eff (av := .sl (.tok id (top + m) sz) (cells ++ cells2) (n + m)) rfl (E_append_tok hx hy htk hS hb ht) hs h
end Go.Proofs.Ytnjkklkjlloedaa
