/- The abstract machine: calls that leave the store as it was. -/
import Derived.Test.YtnjkklkjlloedaaAm11
namespace Go.Proofs.Ytnjkklkjlloedaa
open Go.RowKit
set_option linter.unusedVariables false
set_option linter.unusedSimpArgs false
variable {base : Nat} {Fi : Int → Prop} {M M' M'' : MM} {w w' w'' : World}
variable {P : Program} {ops : Array Oper} {r : List Oper} {sl sl' : List AV} {σ σ' : ASt} {Q : Exit → List AV → ASt → Prop}
variable {d : Tmp} {dst : Option Tmp} {ty : TypeId} {pos : String} {after : Array Edge} {x y z : Operand} {gd : Option (Nat × Bool)} {op : Op}

mutual
/-- A value that names no object and no buffer. -/
def AV.shut : AV → Bool
  | .ptr _ _ | .row _ _ _ | .buf _ _ _ _ | .map _ => false
  | .sl (.tok _ _ _) _ _ => false
  | .sl _ cells _ => AV.shutL cells
  | .epr cells _ => AV.shutL cells
  | .fn _ a b => AV.shutL a && AV.shutL b
  | .iface _ a => a.shut
  | .agg cs => AV.shutL cs
  | .tup cs => AV.shutL cs
  | _ => true
def AV.shutL : List AV → Bool
  | [] => true
  | a :: r => a.shut && AV.shutL r
end
mutual
/-- The same, its buffers forgotten. -/
def AV.fg : AV → AV
  | .sl (.tok _ _ _) cells n => .sl .none (AV.fgL cells) n
  | .sl own cells n => .sl own (AV.fgL cells) n
  | .epr cells n => .epr (AV.fgL cells) n
  | .fn f a b => .fn f (AV.fgL a) (AV.fgL b)
  | .iface t a => .iface t a.fg
  | .agg cs => .agg (AV.fgL cs)
  | .tup cs => .tup (AV.fgL cs)
  | .any => .any
  | .und => .und
  | .int k n => .int k n
  | .bool b => .bool b
  | .str s => .str s
  | .nilp => .nilp
  | .ptr i o => .ptr i o
  | .nils => .nils
  | .row i o n => .row i o n
  | .buf i o n c => .buf i o n c
  | .nilm => .nilm
  | .map i => .map i
  | .nili => .nili
def AV.fgL : List AV → List AV
  | [] => []
  | a :: r => a.fg :: AV.fgL r
end
theorem AV.fgL_length : ∀ l : List AV, (AV.fgL l).length = l.length
  | [] => rfl
  | a :: r => by simp [AV.fgL, AV.fgL_length r]
mutual
theorem Reps.fg : ∀ (a : AV) (v : Value), Reps M w a v → Reps M w a.fg v
  | .sl own cells n, v, h => by
    cases own <;> (unfold AV.fg; unfold Reps at h ⊢; obtain ⟨A, c, vs, h1, h2, h3, h4, h5, h6, h7, h8⟩ := h)
    · exact ⟨A, c, vs, h1, h2, h3, h4, h5, RepsL.fg cells vs h6, fun h0 => by rw [h7 h0]; rfl, trivial⟩
    · exact ⟨A, c, vs, h1, h2, h3, h4, h5, RepsL.fg cells vs h6, fun h0 => by rw [h7 h0]; rfl, h8⟩
    · exact ⟨A, c, vs, h1, h2, h3, h4, h5, RepsL.fg cells vs h6, fun h0 => by rw [h7 h0]; rfl, trivial⟩
  | .epr cells n, v, h => by
    unfold AV.fg; unfold Reps at h ⊢
    obtain ⟨b, o, vs, h1, h2, h3⟩ := h
    exact ⟨b, o, vs, h1, h2, RepsL.fg cells vs h3⟩
  | .fn f a b, v, h => by
    unfold AV.fg; unfold Reps at h ⊢
    obtain ⟨fs, cs, h1, h2, h3⟩ := h
    exact ⟨fs, cs, h1, RepsL.fg a _ h2, RepsL.fg b _ h3⟩
  | .iface t a, v, h => by
    unfold AV.fg; unfold Reps at h ⊢
    obtain ⟨u, h1, h2⟩ := h
    exact ⟨u, h1, Reps.fg a u h2⟩
  | .agg cs, v, h => by
    unfold AV.fg; unfold Reps at h ⊢
    obtain ⟨vs, h1, h2⟩ := h
    exact ⟨vs, h1, RepsL.fg cs _ h2⟩
  | .tup cs, v, h => by
    unfold AV.fg; unfold Reps at h ⊢
    obtain ⟨vs, h1, h2⟩ := h
    exact ⟨vs, h1, RepsL.fg cs _ h2⟩
  | .any, v, h => by unfold AV.fg; exact h
  | .und, v, h => by unfold AV.fg; exact h
  | .int _ _, v, h => by unfold AV.fg; exact h
  | .bool _, v, h => by unfold AV.fg; exact h
  | .str _, v, h => by unfold AV.fg; exact h
  | .nilp, v, h => by unfold AV.fg; exact h
  | .ptr _ _, v, h => by unfold AV.fg; exact h
  | .nils, v, h => by unfold AV.fg; exact h
  | .row _ _ _, v, h => by unfold AV.fg; exact h
  | .buf _ _ _ _, v, h => by unfold AV.fg; exact h
  | .nilm, v, h => by unfold AV.fg; exact h
  | .map _, v, h => by unfold AV.fg; exact h
  | .nili, v, h => by unfold AV.fg; exact h
theorem RepsL.fg : ∀ (l : List AV) (vs : List Value), RepsL M w l vs → RepsL M w (AV.fgL l) vs
  | [], vs, h => by unfold AV.fgL; exact h
  | a :: r, vs, h => by
    unfold AV.fgL; unfold RepsL at h ⊢
    obtain ⟨v, vr, h1, h2, h3⟩ := h
    exact ⟨v, vr, h1, Reps.fg a v h2, RepsL.fg r vr h3⟩
end

/-- Cells that never turn stay such where less is written. -/
def Less (M' M : MM) : Prop := ∀ b j, stab M' b j → stab M b j
mutual
theorem Reps.less (h : Less M' M) : ∀ (a : AV) (v : Value), a.shut = true → Reps M' w a v → Reps M w a v
  | .sl own cells n, v, hs, hr => by
    cases own with
    | tok => simp [AV.shut] at hs
    | none =>
      unfold Reps at hr ⊢
      obtain ⟨A, c, vs, h1, h2, h3, h4, h5, h6, h7, h8⟩ := hr
      exact ⟨A, c, vs, h1, h2, h3, h4, h5.imp (fun h => h) fun ⟨b, o, hA, hm⟩ => ⟨b, o, hA, fun j u hu => ⟨(hm j u hu).1, h _ _ (hm j u hu).2⟩⟩, RepsL.less h cells vs (by simpa [AV.shut] using hs) h6, h7, trivial⟩
    | full =>
      unfold Reps at hr ⊢
      obtain ⟨A, c, vs, h1, h2, h3, h4, h5, h6, h7, h8⟩ := hr
      exact ⟨A, c, vs, h1, h2, h3, h4, h5.imp (fun h => h) fun ⟨b, o, hA, hm⟩ => ⟨b, o, hA, fun j u hu => ⟨(hm j u hu).1, h _ _ (hm j u hu).2⟩⟩, RepsL.less h cells vs (by simpa [AV.shut] using hs) h6, h7, h8⟩
  | .epr cells n, v, hs, hr => by
    unfold Reps at hr ⊢
    obtain ⟨b, o, vs, h1, h2, h3⟩ := hr
    exact ⟨b, o, vs, h1, fun j u hu => ⟨(h2 j u hu).1, h _ _ (h2 j u hu).2⟩, RepsL.less h cells vs (by simpa [AV.shut] using hs) h3⟩
  | .fn f a b, v, hs, hr => by
    simp only [AV.shut, Bool.and_eq_true] at hs
    unfold Reps at hr ⊢
    obtain ⟨fs, cs, h1, h2, h3⟩ := hr
    exact ⟨fs, cs, h1, RepsL.less h a _ hs.1 h2, RepsL.less h b _ hs.2 h3⟩
  | .iface t a, v, hs, hr => by
    unfold Reps at hr ⊢
    obtain ⟨u, h1, h2⟩ := hr
    exact ⟨u, h1, Reps.less h a u (by simpa [AV.shut] using hs) h2⟩
  | .agg cs, v, hs, hr => by
    unfold Reps at hr ⊢
    obtain ⟨vs, h1, h2⟩ := hr
    exact ⟨vs, h1, RepsL.less h cs _ (by simpa [AV.shut] using hs) h2⟩
  | .tup cs, v, hs, hr => by
    unfold Reps at hr ⊢
    obtain ⟨vs, h1, h2⟩ := hr
    exact ⟨vs, h1, RepsL.less h cs _ (by simpa [AV.shut] using hs) h2⟩
  | .ptr _ _, v, hs, hr => by simp [AV.shut] at hs
  | .row _ _ _, v, hs, hr => by simp [AV.shut] at hs
  | .buf _ _ _ _, v, hs, hr => by simp [AV.shut] at hs
  | .map _, v, hs, hr => by simp [AV.shut] at hs
  | .any, v, _, hr => by unfold Reps at hr ⊢; exact hr
  | .und, v, _, hr => by unfold Reps at hr ⊢; exact hr
  | .int _ _, v, _, hr => by unfold Reps at hr ⊢; exact hr
  | .bool _, v, _, hr => by unfold Reps at hr ⊢; exact hr
  | .str _, v, _, hr => by unfold Reps at hr ⊢; exact hr
  | .nilp, v, _, hr => by unfold Reps at hr ⊢; exact hr
  | .nils, v, _, hr => by unfold Reps at hr ⊢; exact hr
  | .nilm, v, _, hr => by unfold Reps at hr ⊢; exact hr
  | .nili, v, _, hr => by unfold Reps at hr ⊢; exact hr
theorem RepsL.less (h : Less M' M) : ∀ (l : List AV) (vs : List Value), AV.shutL l = true → RepsL M' w l vs → RepsL M w l vs
  | [], vs, _, hr => by unfold RepsL at hr ⊢; exact hr
  | a :: r, vs, hs, hr => by
    simp only [AV.shutL, Bool.and_eq_true] at hs
    unfold RepsL at hr ⊢
    obtain ⟨v, vr, h1, h2, h3⟩ := hr
    exact ⟨v, vr, h1, Reps.less h a v hs.1 h2, RepsL.less h r vr hs.2 h3⟩
end

/-- The same objects, under other numbers. -/
def MM.sh (M : MM) (n : Int) : MM := ⟨fun i => M.ob (i + n), fun i => M.tk (i + n), fun i => M.fz (i + n)⟩
theorem sh_ob (M : MM) (n i : Int) : (M.sh n).ob (i - n) = M.ob i := by simp [MM.sh]
theorem sh_tk (M : MM) (n i : Int) : (M.sh n).tk (i - n) = M.tk i := by simp [MM.sh]
theorem sh_fz (M : MM) (n i : Int) : (M.sh n).fz (i - n) = M.fz i := by simp [MM.sh]
/-- Behind a call that saw nothing of the store: all that was there is as it was. -/
theorem seen_none {f : FuncId} {args : List AV} {vs : List Value} {K : AV → ASt → Prop} (h : ACalls P f args ⟨[], [], 0⟩ K) (hsh : AV.shutL args = true) (S : St base Fi M w σ) (hr : RepsL M w args vs) : Calls P f vs.toArray w (fun e w' => ∃ r σ' M' v, K r σ' ∧ e = .returned v ∧ Reps M' w' r v ∧ St base (fun id => id < 0) M' w' σ' ∧ Stp base Fi M w M w' ∧ St base Fi M w' σ ∧ Less M' M ∧ Stp base (fun id => id < 0) (M.sh σ.next) w M' w') := by
  have lt : ∀ id b, M.ob id = some b → id < σ.next := fun id b hb => Int.lt_of_not_ge fun hle => by rw [(S.fresh id hle).1] at hb; cases hb
  have ltk : ∀ id T, M.tk id = some T → id < σ.next := fun id T hb => Int.lt_of_not_ge fun hle => by rw [(S.fresh id hle).2.1] at hb; cases hb
  have S' : St base (fun id => id < 0) (M.sh σ.next) w ⟨[], [], 0⟩ := by
    refine ⟨S.base_le, (fun id c hl => by simp [alook] at hl), (fun id t hl => by simp [alook] at hl), fun i i' b h1 h2 => ?_, fun i i' b T e ce h1 h2 => S.dis _ _ b T e ce h1 h2, fun i i' T T' b e ce e' ce' h1 h2 h3 h4 => ?_, fun i b h1 => S.obsz _ b h1, fun i T b e ce h1 h2 => S.tksz _ T b e ce h1 h2, fun id hid => ?_⟩
    · have := S.inj _ _ b h1 h2; omega
    · have := S.tinj _ _ T T' b e ce e' ce' h1 h2 h3 h4; omega
    · have hid' : (0 : Int) ≤ id := hid
      obtain ⟨h1, h2, h3, h4⟩ := S.fresh (id + σ.next) (by omega)
      exact ⟨h1, h2, by show ¬ id < 0; omega, h4⟩
  have hL0 : Less M (M.sh σ.next) := fun b j hs => ⟨fun id hb => hs.1 _ hb, fun id T e ce h1 h2 => hs.2 _ T e ce h1 h2⟩
  refine (h base _ (M.sh σ.next) w vs S' (RepsL.less hL0 _ _ hsh hr)).mono ?_
  rintro e w' ⟨rv, σ2, M', v, hk, he, hv, S2, T⟩
  have fob : ∀ id b, M.ob id = some b → w'.heap[b]? = w.heap[b]? := fun id b hb => T.fob (id - σ.next) b (by have := lt id b hb; show id - σ.next < 0; omega) (by rw [sh_ob]; exact hb)
  have ftk : ∀ id T0 b e ce, M.tk id = some T0 → T0.blk = some (b, e, ce) → w'.heap[b]? = w.heap[b]? := fun id T0 b e ce h1 h2 => T.ftk (id - σ.next) T0 b e ce (by have := ltk id T0 h1; show id - σ.next < 0; omega) (by rw [sh_tk]; exact h1) h2
  have hL1 : ∀ b j, stab M b j → stab (M.sh σ.next) b j := hL0
  have tsame : ∀ id T0, M.tk id = some T0 → M'.tk (id - σ.next) = some T0 := by
    intro id T0 h0
    obtain ⟨T1, h1, _, h3⟩ := T.tk (id - σ.next) T0 (by rw [sh_tk]; exact h0)
    rcases h3 with rfl | ⟨_, h3⟩
    · exact h1
    · exact absurd (show id - σ.next < 0 by have := ltk id T0 h0; omega) h3
  have TM : Stp base Fi M w M w' := ⟨T.os, T.tape, T.output, T.size, T.below, fun _ _ h => h, fun id T0 h0 => ⟨T0, h0, rfl, .inl rfl⟩, fun b j v hs hc => ⟨(T.cell b j v (hL1 b j hs) hc).1, hs⟩, fun id b _ hb => fob id b hb, fun _ _ h => h, fun id T0 b e' ce _ h1 h2 => ftk id T0 b e' ce h1 h2⟩
  refine ⟨rv, σ2, M', v, hk, he, hv, S2, TM, ?_, ?_, T⟩
  · refine ⟨Nat.le_trans S.base_le T.size, fun id c hl => ?_, fun id t hl => ?_, S.inj, S.dis, S.tinj, fun id b hb => Nat.lt_of_lt_of_le (S.obsz id b hb) T.size, fun id T0 b e' ce h1 h2 => Nat.lt_of_lt_of_le (S.tksz id T0 b e' ce h1 h2) T.size, S.fresh⟩
    · obtain ⟨h1, b, us, e', h2, h3, h4, h5⟩ := S.obs id c hl
      exact ⟨h1, b, us, e', h2, h3, by rw [fob id b h2]; exact h4, RepsL.stp TM _ _ h5⟩
    · obtain ⟨h1, T0, h2, h3, h4⟩ := S.tks id t hl
      refine ⟨h1, T0, h2, h3, fun b e' ce hb => ?_⟩
      obtain ⟨h5, h6⟩ := h4 b e' ce hb
      have hB := ftk id T0 b e' ce h2 hb
      exact ⟨h5, h6.heap hB⟩
  · intro b j hs
    refine ⟨fun id hb => ?_, fun id T0 e' ce h1 h2 => hs.2 (id - σ.next) T0 e' ce (tsame id T0 h1) h2⟩
    have h1 := T.ob (id - σ.next) b (by rw [sh_ob]; exact hb)
    have h2 := T.ffz (id - σ.next) (show id - σ.next < 0 by have := lt id b hb; omega) (hs.1 _ h1)
    rwa [sh_fz] at h2

/-- A function that yields just a value. -/
def AVal (P : Program) (f : FuncId) (args : List AV) (R : AV) : Prop := ∀ σ, ACalls P f args σ (fun rv σ' => rv = R ∧ σ' = σ)
theorem AVal.mk {f : FuncId} {args : List AV} {R : AV} (hA : AV.shutL args = true) (hR : R.shut = true) (h : ACalls P f args ⟨[], [], 0⟩ (fun rv _ => rv.fg = R)) : AVal P f args R := by
  intro σ base Fi M w vs S hr
  refine (seen_none h hA S hr).mono ?_
  rintro e w' ⟨rv, σ2, M', v, hk, he, hv, S2, TM, S3, hL, _⟩
  refine ⟨R, σ, M, v, ⟨rfl, rfl⟩, he, Reps.less hL R v hR (hk ▸ Reps.fg rv v hv), S3, TM⟩
/-- A function that yields a slice that one may append to. -/
def ATok (P : Program) (f : FuncId) (args : List AV) (top sz : Nat) (cells : List AV) (n : Nat) : Prop := ∀ σ, ACalls P f args σ (fun rv σ' => rv = .sl (.tok σ.next top sz) cells n ∧ σ' = ⟨σ.objs, (σ.next, top) :: σ.toks, σ.next + 1⟩)
theorem ATok.mk {f : FuncId} {args : List AV} {top sz n : Nat} {cells : List AV} (hA : AV.shutL args = true) (hR : AV.shutL cells = true) (h : ACalls P f args ⟨[], [], 0⟩ (fun rv σ' => ∃ id, rv = .sl (.tok id top sz) cells n ∧ alook σ'.toks id = some top)) : ATok P f args top sz cells n := by
  intro σ base Fi M w vs S hr
  refine (seen_none h hA S hr).mono ?_
  rintro e w' ⟨rv, σ2, M', v, ⟨id, rfl, hid⟩, he, hv, S2, TM, S3, hL, T⟩
  obtain ⟨hF, T0, h1, h2, h3⟩ := S2.tks id top hid
  have hbl : ∀ b e' ce, T0.blk = some (b, e', ce) → base ≤ b ∧ b < w'.heap.size := fun b e' ce hb => ⟨(h3 b e' ce hb).1, S2.tksz id T0 b e' ce h1 hb⟩
  have lt : ∀ i b, M.ob i = some b → i < σ.next := fun i b hb => Int.lt_of_not_ge fun hle => by rw [(S.fresh i hle).1] at hb; cases hb
  have ltk : ∀ i T, M.tk i = some T → i < σ.next := fun i T hb => Int.lt_of_not_ge fun hle => by rw [(S.fresh i hle).2.1] at hb; cases hb
  have tsame : ∀ i T1, M.tk i = some T1 → M'.tk (i - σ.next) = some T1 := by
    intro i T1 h0
    obtain ⟨T2, h1, _, h3⟩ := T.tk (i - σ.next) T1 (by rw [sh_tk]; exact h0)
    rcases h3 with rfl | ⟨_, h3⟩
    · exact h1
    · exact absurd (show i - σ.next < 0 by have := ltk i T1 h0; omega) h3
  have hidn : 0 ≤ id := Int.not_lt.1 fun hlt => hF hlt
  have hne : ∀ i T1, M.tk i = some T1 → ∀ b e' ce e2 ce2, T1.blk = some (b, e', ce) → T0.blk ≠ some (b, e2, ce2) := by
    intro i T1 hi b e' ce e2 ce2 hb hb2
    have := S2.tinj (i - σ.next) id T1 T0 b e' ce e2 ce2 (tsame i T1 hi) h1 hb hb2
    have := ltk i T1 hi
    omega
  have hL1 : ∀ b j, stab M b j → stab (M.sh σ.next) b j := fun b j hs => ⟨fun id hb => hs.1 _ hb, fun id T e ce h1 h2 => hs.2 _ T e ce h1 h2⟩
  have TT : Stp base Fi M w (M.tok σ.next T0) w' := by
    refine ⟨TM.os, TM.tape, TM.output, TM.size, TM.below, fun _ _ h => h, fun i T1 h0 => ⟨T1, ?_, rfl, .inl rfl⟩, fun b j v hs hc => ⟨(T.cell b j v (hL1 b j hs) hc).1, hs.1, fun i T1 e' ce g1 g2 => ?_⟩, TM.fob, fun _ _ h => h, TM.ftk⟩
    · simp only [MM.tok]
      rw [if_neg (by have := ltk i T1 h0; omega)]; exact h0
    · simp only [MM.tok] at g1
      split at g1
      · cases g1
        exact (T.cell b j v (hL1 b j hs) hc).2.2 id T0 e' ce h1 g2
      · exact hs.2 i T1 e' ce g1 g2
  refine ⟨_, _, M.tok σ.next T0, v, ⟨rfl, rfl⟩, he, ?_, ?_, TT⟩
  · unfold Reps at hv ⊢
    obtain ⟨A, c, us, k1, k2, k3, k4, k5, k6, k7, T1, k8, k9, k10, k11, k12⟩ := hv
    rw [h1] at k8; cases k8
    have hL2 : Less M' (M.tok σ.next T0) := by
      intro b j hs
      refine ⟨(hL b j hs).1, fun i T1 e' ce g1 g2 => ?_⟩
      simp only [MM.tok] at g1
      split at g1
      · cases g1; exact hs.2 id T0 e' ce h1 g2
      · exact (hL b j hs).2 i T1 e' ce g1 g2
    exact ⟨A, c, us, k1, k2, k3, k4, k5.imp (fun h => h) fun ⟨b, o, hA, hm⟩ => ⟨b, o, hA, fun j u hu => ⟨(hm j u hu).1, hL2 _ _ (hm j u hu).2⟩⟩, RepsL.less hL2 cells us hR k6, k7, T0, by simp [MM.tok], k9, k10, k11, k12⟩
  · refine ⟨S3.base_le, fun i c hl => ?_, fun i t hl => ?_, S3.inj, fun i i' b T1 e' ce g1 g2 => ?_, fun i i' T1 T2 b e1 ce1 e2 ce2 g1 g2 g3 g4 => ?_, S3.obsz, fun i T1 b e' ce g1 g2 => ?_, fun i hi => ?_⟩
    · obtain ⟨g1, b, us, e', g2, g3, g4, g5⟩ := S.obs i c hl
      have g4' : w'.heap[b]? = some (.cells us e' (0, 0)) := by rw [T.fob (i - σ.next) b (by have := lt i b g2; show i - σ.next < 0; omega) (by rw [sh_ob]; exact g2)]; exact g4
      exact ⟨g1, b, us, e', g2, g3, g4', RepsL.stp TT _ _ g5⟩
    · simp only [alook] at hl
      split at hl
      · rename_i hi
        cases hl
        subst hi
        exact ⟨(S.fresh _ (Int.le_refl _)).2.2.1, T0, by simp [MM.tok], h2, h3⟩
      · rename_i hi
        obtain ⟨g1, T1, g2, g3⟩ := S3.tks i t hl
        exact ⟨g1, T1, by simp [MM.tok, Ne.symm hi, g2], g3⟩
    · simp only [MM.tok] at g2
      split at g2
      · cases g2; exact S2.dis (i - σ.next) id b T0 e' ce (T.ob _ b (by rw [sh_ob]; exact g1)) h1
      · exact S3.dis i i' b T1 e' ce g1 g2
    · simp only [MM.tok] at g1 g2
      split at g1 <;> split at g2
      · omega
      · cases g1; exact absurd g3 (hne i' T2 g2 b e2 ce2 e1 ce1 g4)
      · cases g2; exact absurd g4 (hne i T1 g1 b e1 ce1 e2 ce2 g3)
      · exact S3.tinj i i' T1 T2 b e1 ce1 e2 ce2 g1 g2 g3 g4
    · simp only [MM.tok] at g1
      split at g1
      · cases g1; exact (hbl b e' ce g2).2
      · exact S3.tksz i T1 b e' ce g1 g2
    · have hi' : σ.next + 1 ≤ i := hi
      obtain ⟨g1, g2, g3⟩ := S3.fresh i (by omega)
      refine ⟨g1, ?_, g3⟩
      simp only [MM.tok]
      rw [if_neg (by omega)]; exact g2
/-- A call whose answer is known. -/
theorem S_call {f : Operand} {g : FuncId} {first cap : List AV} {as_ : List Operand} {ats : Array TypeId} {args : List AV} {R : AV} {σ2 : ASt} (hf : aev sl f = .fn g first cap) (ha : first ++ as_.map (aev sl) ++ cap = args) (h : ACalls P g args σ (fun rv σ' => rv = R ∧ σ' = σ2)) (hc : ∀ (vs : Array Value) (w : World), (callFunc g vs).run P w = .ok (.enter g vs) w) (hs : aput sl dst R = sl') (hk : AOPS P ops r sl' σ2 Q) : AOPS P ops (⟨dst, .call { callee := .value f, args := as_.toArray, argTypes := ats }, ty, pos, after, none⟩ :: r) sl σ Q :=
  AOPS_call hf ha hc h (by rintro rv σ' ⟨rfl, rfl⟩; rw [hs]; exact hk)

/-! ### Rules whose store is written out -/
variable {objs : List (Int × List AV)} {toks : List (Int × Nat)} {next : Int}
theorem T_box {t : TypeId} {av : AV} {cells : List AV} (hx : aevo sl x = some av) (hf : av.flat = true) (hc : av.cells = cells) (hs : aput sl dst (.ptr next 0) = sl') (h : AOPS P ops r sl' ⟨(next, cells) :: objs, toks, next + 1⟩ Q) : AOPS P ops (⟨dst, .box t x, ty, pos, after, none⟩ :: r) sl ⟨objs, toks, next⟩ Q := S_box hx hf hc rfl hs h
theorem T_alloc {t : TypeId} {agg : Bool} {zs : List Value} [T : TyZero P t agg zs] {cs : List AV} (hc : zerosF zs 1 = cs) (hs : aput sl dst (.ptr next 0) = sl') (h : AOPS P ops r sl' ⟨(next, cs) :: objs, toks, next + 1⟩ Q) : AOPS P ops (⟨dst, .alloc t, ty, pos, after, none⟩ :: r) sl ⟨objs, toks, next⟩ Q := AOPS_alloc (cs := cs) (by rw [← hc]; simp [zerosF]) hs h
theorem T_store {t : TypeId} {off : Nat} {id : Int} {cells cells' : List AV} {av : AV} {objs' : List (Int × List AV)} (hx : aev sl x = .ptr id off) (hy : aevo sl y = some av) [T : TyVar P t false 1] (ho : alook objs id = some cells) (hf : av.one = true) (hc : cutF cells off [av] = some cells') (hob : aset objs id cells' = objs') (hs : aput sl dst .und = sl') (h : AOPS P ops r sl' ⟨objs', toks, next⟩ Q) : AOPS P ops (⟨dst, .store t x y, ty, pos, after, none⟩ :: r) sl ⟨objs, toks, next⟩ Q := by
  obtain ⟨h1, h2⟩ := cutF_ok hc
  have h3 : av.cells = [av] := by cases av <;> first | rfl | (simp [AV.one] at hf)
  have h4 : av.flat = true := by cases av <;> first | exact hf | (simp [AV.one] at hf)
  exact AOPS_store (vs := [av]) hx (aevo_eq hy) ho h3 (by simp [hf]) h4 rfl (by simpa using h2) (by rw [h1]; exact hob) hs h
theorem T_store_all {t : TypeId} {sz : Nat} {id : Int} {cells vs : List AV} {objs' : List (Int × List AV)} (hx : aev sl x = .ptr id 0) (hy : aev sl y = .agg vs) [T : TyVar P t true sz] (ho : alook objs id = some cells) (hf : vs.all AV.one = true) (hl : vs.length = sz) (hle : cells.length = sz) (hob : aset objs id vs = objs') (hs : aput sl dst .und = sl') (h : AOPS P ops r sl' ⟨objs', toks, next⟩ Q) : AOPS P ops (⟨dst, .store t x y, ty, pos, after, none⟩ :: r) sl ⟨objs, toks, next⟩ Q := S_store_all (σ := ⟨objs, toks, next⟩) hx hy ho hf hl hle hob hs h
theorem T_append_nils {t e tx : TypeId} {sz by_ : Nat} {cells2 : List AV} {m : Nat} {av : AV} (hx : aev sl x = .nils) (hy : aevo sl y = some av) [T : TySl P t e sz by_] (hS : SrcOk P sz tx av cells2 m) (hb : m * by_ ≤ 140737488355328 ∧ m ≤ 1000000000000) (hs : aput sl dst (.sl (.tok next m sz) cells2 m) = sl') (h : AOPS P ops r sl' ⟨objs, (next, m) :: toks, next + 1⟩ Q) : AOPS P ops (⟨dst, .call { callee := .builtin .append, args := #[x, y], argTypes := #[t, tx] }, ty, pos, after, none⟩ :: r) sl ⟨objs, toks, next⟩ Q := AOPS_append_nils hx (aevo_eq hy) hS hb hs h
theorem T_append_full {t e tx : TypeId} {sz by_ : Nat} {cells cells2 : List AV} {n m : Nat} {av : AV} (hx : aev sl x = .sl .full cells n) (hy : aevo sl y = some av) [T : TySl P t e sz by_] (hS : SrcOk P sz tx av cells2 m) (hl : cells.length = n * sz) (hb : (n + m) * by_ ≤ 140737488355328 ∧ n + m ≤ 1000000000000) (hs : aput sl dst (.sl (.tok next (n + m) sz) (cells ++ cells2) (n + m)) = sl') (h : AOPS P ops r sl' ⟨objs, (next, n + m) :: toks, next + 1⟩ Q) : AOPS P ops (⟨dst, .call { callee := .builtin .append, args := #[x, y], argTypes := #[t, tx] }, ty, pos, after, none⟩ :: r) sl ⟨objs, toks, next⟩ Q := AOPS_append_full hx (aevo_eq hy) hS hl hb hs h
theorem T_append_tok {t e tx : TypeId} {sz by_ top : Nat} {id : Int} {cells cells2 : List AV} {n m : Nat} {av : AV} {toks' : List (Int × Nat)} (hx : aev sl x = .sl (.tok id top sz) cells n) (hy : aevo sl y = some av) [T : TySl P t e sz by_] (htk : alook toks id = some top) (hS : SrcOk P sz tx av cells2 m) (hb : (n + m) * by_ ≤ 140737488355328 ∧ n + m ≤ 1000000000000) (ht : aset toks id (top + m) = toks') (hs : aput sl dst (.sl (.tok id (top + m) sz) (cells ++ cells2) (n + m)) = sl') (h : AOPS P ops r sl' ⟨objs, toks', next⟩ Q) : AOPS P ops (⟨dst, .call { callee := .builtin .append, args := #[x, y], argTypes := #[t, tx] }, ty, pos, after, none⟩ :: r) sl ⟨objs, toks, next⟩ Q := AOPS_append_tok hx (aevo_eq hy) htk hS hb ht hs h
theorem bvA_ones (l : List UInt8) : (l.map bvA).all AV.one = true := by
  induction l with
  | nil => rfl
  | cons x l ih => simp only [List.map_cons, List.all_cons, ih, Bool.and_true]; rfl
theorem SrcOk_bytes {by_ : Nat} {tx e : TypeId} {own : AOwn} {l : List UInt8} {n : Nat} (T : TySl P tx e 1 by_) (hl : l.length = n) : SrcOk P 1 tx (.sl own (l.map bvA) n) (l.map bvA) n := SrcOk_sl T (by simp [hl]) (bvA_ones l)
theorem fgL_bvA : ∀ l : List UInt8, AV.fgL (l.map bvA) = l.map bvA
  | [] => rfl
  | x :: l => by simp only [List.map_cons, AV.fgL, fgL_bvA l]; rfl
theorem shutL_bvA : ∀ l : List UInt8, AV.shutL (l.map bvA) = true
  | [] => rfl
  | x :: l => by simp only [List.map_cons, AV.shutL, shutL_bvA l]; rfl
end Go.Proofs.Ytnjkklkjlloedaa
