/- The abstract machine: contracts of functions that make a buffer, that look at one, that freeze one. -/
import Derived.Test.YtnjkklkjlloedaaRun
namespace Go.Proofs.Ytnjkklkjlloedaa
open Go.RowKit
set_option linter.unusedVariables false
set_option linter.unusedSimpArgs false
variable {base : Nat} {Fi : Int → Prop} {M : MM} {w w' : World}
variable {P : Program} {ops : Array Oper} {r : List Oper} {sl sl' : List AV} {σ σ' : ASt} {Q : Exit → List AV → ASt → Prop}
variable {dst : Option Tmp} {ty : TypeId} {pos : String} {after : Array Edge} {x y z : Operand} {objs : List (Int × List AV)} {toks : List (Int × Tq)} {next : Int}
def anys (k : Nat) : List AV := List.replicate k .any
theorem anys_len (k : Nat) : (anys k).length = k := by simp [anys]
theorem anys_shut : ∀ k, AV.shutL (anys k) = true
  | 0 => rfl
  | k + 1 => by simp only [anys, List.replicate_succ, AV.shutL, AV.shut, Bool.true_and]; exact anys_shut k
theorem shutL_append : ∀ a b : List AV, AV.shutL a = true → AV.shutL b = true → AV.shutL (a ++ b) = true
  | [], b, _, h => h
  | x :: a, b, h1, h2 => by
    simp only [AV.shutL, Bool.and_eq_true] at h1
    simp only [List.cons_append, AV.shutL, h1.1, Bool.true_and]
    exact shutL_append a b h1.2 h2
/-- A result that holds one buffer. -/
structure BufR (R : AV → AV) : Prop where
  ren : ∀ (ρ : Int → Int) id n c, (R (.buf id 0 n c)).ren ρ = R (.buf (ρ id) 0 n c)
  ids : ∀ (p : Int → Bool) id n c, p id = true → (R (.buf id 0 n c)).ids p = true
  reps : ∀ (M M' : MM) (w : World) v id id' n c, M'.ob id' = M.ob id → Less M M' → Reps M w (R (.buf id 0 n c)) v → Reps M' w (R (.buf id' 0 n c)) v
theorem BufR.id : BufR (fun b => b) := by
  refine ⟨fun ρ i n c => by unfold AV.ren; rfl, fun p i n c h => by unfold AV.ids; exact h, fun M M' w v i i' n c h _ hr => ?_⟩
  unfold Reps at hr ⊢
  rw [h]; exact hr
theorem BufR.tup {R : AV → AV} (h : BufR R) (e : Int) (k : IntKind) : BufR (fun b => .tup [R b, .int k e]) := by
  refine ⟨fun ρ i n c => ?_, fun p i n c hp => ?_, fun M M' w v i i' n c h1 hL hr => ?_⟩
  · simp only [AV.ren, AV.renL, h.ren]
  · simp only [AV.ids, AV.idsL, h.ids p i n c hp, Bool.and_self]
  · unfold Reps at hr ⊢
    obtain ⟨vs, e1, h2⟩ := hr
    refine ⟨vs, e1, ?_⟩
    unfold RepsL at h2 ⊢
    obtain ⟨v1, vr, e2, h3, h4⟩ := h2
    refine ⟨v1, vr, e2, h.reps M M' w v1 i i' n c h1 hL h3, ?_⟩
    exact RepsL.less hL _ _ (by simp [AV.shutL, AV.shut]) h4
theorem BufR.agg3 {R : AV → AV} (h : BufR R) (m n : Int) (k l : IntKind) : BufR (fun b => .agg [.int k m, .int l n, R b]) := by
  refine ⟨fun ρ i n c => ?_, fun p i n c hp => ?_, fun M M' w v i i' n c h1 hL hr => ?_⟩
  · simp only [AV.ren, AV.renL, h.ren]
  · simp only [AV.ids, AV.idsL, h.ids p i n c hp, Bool.and_self]
  · unfold Reps at hr ⊢
    obtain ⟨vs, e1, h2⟩ := hr
    refine ⟨vs, e1, ?_⟩
    unfold RepsL at h2 ⊢
    obtain ⟨v1, vr, e2, h3, h4⟩ := h2
    refine ⟨v1, vr, e2, Reps.less hL _ _ (by simp [AV.shut]) h3, ?_⟩
    unfold RepsL at h4 ⊢
    obtain ⟨v2, vr2, e3, h5, h6⟩ := h4
    refine ⟨v2, vr2, e3, Reps.less hL _ _ (by simp [AV.shut]) h5, ?_⟩
    unfold RepsL at h6 ⊢
    obtain ⟨v3, vr3, e4, h7, h8⟩ := h6
    refine ⟨v3, vr3, e4, h.reps M M' w v3 i i' _ c h1 hL h7, ?_⟩
    unfold RepsL at h8 ⊢
    exact h8
/-- A function that makes a buffer. -/
def ABuf (P : Program) (f : FuncId) (args : List AV) (R : AV → AV) (cells : List AV) (L sz : Nat) : Prop := ∀ σ, ACalls P f args σ (fun rv σ' => ∃ j, rv = R (.buf σ.next 0 L (L + j)) ∧ σ' = ⟨(σ.next, cells ++ anys (j * sz)) :: σ.objs, σ.toks, σ.next + 1⟩)
theorem ABuf.at0 {f : FuncId} {args cells : List AV} {R : AV → AV} {L sz : Nat} (hC : AV.shutL cells = true) (hR : BufR R)
    (h : ACalls P f args ⟨[], [], 0⟩ (fun rv σ1 => ∃ id j, 0 ≤ id ∧ rv = R (.buf id 0 L (L + j)) ∧ alook σ1.objs id = some (cells ++ anys (j * sz)))) :
    ACalls P f args ⟨[], [], 0⟩ (fun rv σ' => ∃ j, rv = R (.buf 0 0 L (L + j)) ∧ σ' = ⟨[(0, cells ++ anys (j * sz))], [], 1⟩) := by
  intro base Fi M w vs S hr
  refine (h base Fi M w vs S hr).mono ?_
  rintro e w' ⟨rv, σ1, M1, v, ⟨id, j, hid, rfl, hl⟩, he, hv, S1, T⟩
  have hfr : ∀ i : Int, 0 ≤ i → M.ob i = none ∧ M.tk i = none ∧ ¬ Fi i ∧ ¬ M.fz i := fun i hi => S.fresh i hi
  obtain ⟨hF, b, us, ety, g1, g2, g3, g4⟩ := S1.obs id _ hl
  let M2 : MM := ⟨fun i => if i < 0 then M1.ob i else if i = 0 then M1.ob id else none, fun i => if i < 0 then M1.tk i else none, fun i => if i < 0 then M1.fz i else False⟩
  have hob : ∀ i c, M2.ob i = some c → (i < 0 ∧ M1.ob i = some c) ∨ (i = 0 ∧ M1.ob id = some c) := by
    intro i c hc
    simp only [M2] at hc
    split at hc
    · exact .inl ⟨by assumption, hc⟩
    · split at hc
      · exact .inr ⟨by assumption, hc⟩
      · cases hc
  have htk : ∀ i T0, M2.tk i = some T0 → i < 0 ∧ M1.tk i = some T0 := by
    intro i T0 hc
    simp only [M2] at hc
    split at hc
    · exact ⟨by assumption, hc⟩
    · cases hc
  have hL : Less M1 M2 := by
    intro c q hs
    refine ⟨fun i hi => ?_, fun i T0 e' ce h1 h2 => hs.2 i T0 e' ce (htk i T0 h1).2 h2⟩
    rcases hob i c hi with ⟨h1, h2⟩ | ⟨h1, h2⟩
    · simp only [M2, if_pos h1]; exact hs.1 i h2
    · exact absurd (hs.1 id h2) hF.2
  have hsh : AV.shutL (cells ++ anys (j * sz)) = true := shutL_append _ _ hC (anys_shut _)
  have h0 : M2.ob 0 = M1.ob id := by simp [M2]
  refine ⟨_, _, M2, v, ⟨j, rfl, rfl⟩, he, hR.reps M1 M2 w' v id 0 _ _ h0 hL hv, ?_, ?_⟩
  · refine ⟨S1.base_le, fun i c hc => ?_, fun i t hc => by simp [alook] at hc, fun i sh kvs hc => by simp [alook] at hc, fun i i' c h1 h2 => ?_, fun i i' c T0 e' ce h1 h2 => ?_, fun i i' T0 T1 c e1 ce1 e2 ce2 h1 h2 h3 h4 => ?_, fun i c h1 => ?_, fun i T0 c e' ce h1 h2 => S1.tksz i T0 c e' ce (htk i T0 h1).2 h2, fun i hi => ?_⟩
    · simp only [alook] at hc
      split at hc
      · rename_i hi
        cases hc
        subst hi
        exact ⟨⟨(hfr 0 (by omega)).2.2.1, by simp [M2]⟩, b, us, ety, by rw [h0]; exact g1, g2, g3, RepsL.less hL _ _ hsh g4⟩
      · cases hc
    · rcases hob i c h1 with ⟨a1, a2⟩ | ⟨a1, a2⟩ <;> rcases hob i' c h2 with ⟨b1, b2⟩ | ⟨b1, b2⟩
      · exact S1.inj i i' c a2 b2
      · have := S1.inj i id c a2 b2; omega
      · have := S1.inj id i' c a2 b2; omega
      · omega
    · rcases hob i c h1 with ⟨a1, a2⟩ | ⟨a1, a2⟩
      · exact S1.dis i i' c T0 e' ce a2 (htk i' T0 h2).2
      · exact S1.dis id i' c T0 e' ce a2 (htk i' T0 h2).2
    · exact S1.tinj i i' T0 T1 c e1 ce1 e2 ce2 (htk i T0 h1).2 (htk i' T1 h2).2 h3 h4
    · rcases hob i c h1 with ⟨a1, a2⟩ | ⟨a1, a2⟩
      · exact S1.obsz i c a2
      · exact S1.obsz id c a2
    · have hi' : (1 : Int) ≤ i := hi
      have n1 : ¬ i < 0 := by omega
      have n2 : ¬ i = 0 := by omega
      exact ⟨by simp [M2, n1, n2], by simp [M2, n1], (hfr i (by omega)).2.2.1, by simp [M2, n1]⟩
  · have neg : ∀ i b', M.ob i = some b' → i < 0 := fun i b' hb => Int.lt_of_not_ge fun hi => by rw [(hfr i hi).1] at hb; cases hb
    have negt : ∀ i T0, M.tk i = some T0 → i < 0 := fun i T0 hb => Int.lt_of_not_ge fun hi => by rw [(hfr i hi).2.1] at hb; cases hb
    refine ⟨T.os, T.tape, T.output, T.size, T.below, fun i b' hb => ?_, fun i T0 hb => ?_, fun c q u hs hc => ?_, T.fob, fun i hf hz => ?_, T.ftk⟩
    · simp only [M2, if_pos (neg i b' hb)]; exact T.ob i b' hb
    · obtain ⟨T1, k1, k2, k3⟩ := T.tk i T0 hb
      exact ⟨T1, by simp only [M2, if_pos (negt i T0 hb)]; exact k1, k2, k3⟩
    · obtain ⟨k1, k2⟩ := T.cell c q u hs hc
      exact ⟨k1, hL _ _ k2⟩
    · by_cases hi : i < 0
      · simp only [M2, if_pos hi] at hz; exact T.ffz i hf hz
      · exact absurd hf (hfr i (by omega)).2.2.1
theorem ABuf.mk {f : FuncId} {args cells : List AV} {R : AV → AV} {L sz : Nat} (hA : AV.shutL args = true) (hC : AV.shutL cells = true) (hR : BufR R)
    (h : ACalls P f args ⟨[], [], 0⟩ (fun rv σ1 => ∃ id j, 0 ≤ id ∧ rv = R (.buf id 0 L (L + j)) ∧ alook σ1.objs id = some (cells ++ anys (j * sz)))) : ABuf P f args R cells L sz := by
  intro σ
  have h1 := ABuf.at0 hC hR h
  have := ACalls.move (σ := σ) (K := fun rv σ' => ∃ j, rv = R (.buf σ.next 0 L (L + j)) ∧ σ' = ⟨(σ.next, cells ++ anys (j * sz)) :: σ.objs, σ.toks, σ.next + 1⟩) h1 0 (by omega) rfl (fun i => i) (fun i _ _ => by omega) (fun i i' _ _ _ _ h => h) (fun i c hl' => by simp [alook] at hl') (fun i t hl' => by simp [alook] at hl') (AV.idsL_shut _ _ hA) ?_
  · rwa [AV.renL_shut _ _ hA] at this
  · rintro rv σ1 ⟨j, rfl, rfl⟩
    have hrho : rho 0 (fun i => i) σ.next 0 = σ.next := by unfold rho; rw [if_neg (by omega)]; omega
    have hsh : AV.shutL (cells ++ anys (j * sz)) = true := shutL_append _ _ hC (anys_shut _)
    refine ⟨1, hR.ids _ _ _ _ (inK_iff.2 ⟨by omega, by omega⟩), by omega, ⟨(σ.next, cells ++ anys (j * sz)) :: σ.objs, σ.toks, σ.next + 1⟩, ⟨fun i c hi => ?_, fun i t hi => .inr ⟨hi, fun i _ _ => by omega⟩, by show 1 - 0 + σ.next ≤ σ.next + 1; omega⟩, j, by rw [hR.ren, hrho], rfl⟩
    simp only [alook] at hi
    split at hi
    · rename_i h0
      cases hi
      exact .inl ⟨0, _, by omega, by omega, by rw [hrho]; exact h0, by simp [alook], AV.idsL_shut _ _ hsh, by rw [AV.renL_shut _ _ hsh]⟩
    · exact .inr ⟨hi, fun i _ _ => by omega⟩
theorem aset_self {α : Type} : ∀ {l : List (Int × α)} {id : Int} {x : α}, alook l id = some x → aset l id x = l
  | [], id, x, h => by simp [alook] at h
  | (k, v) :: r, id, x, h => by
    simp only [alook] at h
    unfold aset
    split at h
    · rename_i hk; cases h; rw [if_pos hk]
    · rename_i hk; rw [if_neg hk, aset_self h]
/-- A function that only looks at a buffer. -/
def AVw (P : Program) (f : FuncId) (full : List AV) (n c : Nat) (args : List AV) (R : AV) : Prop :=
  ∀ (id : Int) (σ : ASt), alook σ.objs id = some full → alook σ.toks id = none → id < σ.next → ACalls P f (.buf id 0 n c :: args) σ (fun rv σ' => rv = R ∧ σ' = σ)
theorem AVw.mk {f : FuncId} {full args : List AV} {n c : Nat} {R : AV} (hA : AV.shutL args = true) (hC : AV.shutL full = true) (hR : R.shut = true)
    (h : ACalls P f (.buf 0 0 n c :: args) ⟨[(0, full)], [], 1⟩ (fun rv σ1 => rv.wk = R ∧ 1 ≤ σ1.next ∧ alook σ1.objs 0 = some full)) : AVw P f full n c args R := by
  intro id σ hl htk hlt
  have h1 : ACalls P f (.buf 0 0 n c :: args) ⟨[(0, full)], [], 1⟩ (fun rv σ1 => rv = R ∧ 1 ≤ σ1.next ∧ σ1.objs = [(0, full)] ∧ σ1.toks = []) := by
    refine AWeakW h ?_
    rintro r σ' ⟨g1, g2, g3⟩
    refine ⟨⟨[(0, full)], [], σ'.next⟩, ⟨fun id c hl => ?_, fun id t hl => by simp [alook] at hl, Int.le_refl _⟩, g1, g2, rfl, rfl⟩
    simp only [alook] at hl
    split at hl
    · rename_i h0
      subst h0
      cases hl
      exact ⟨_, g3, .inl rfl⟩
    · cases hl
  have hargs : AV.renL (rho 1 (fun _ => id) σ.next) (.buf 0 0 n c :: args) = .buf id 0 n c :: args := by
    unfold AV.renL
    rw [AV.renL_shut _ _ hA]
    unfold AV.ren
    rfl
  have := ACalls.move (σ := σ) (K := fun rv σ' => rv = R ∧ σ' = ⟨aset σ.objs id full, σ.toks, σ.next⟩) h1 1 (by omega) rfl (fun _ => id) (fun _ _ _ => hlt) (fun i i' _ _ _ _ _ => by omega) (fun i c hl' => ?_) (fun i t hl' => by simp [alook] at hl') ?_ ?_
  · rw [hargs, aset_self hl] at this
    exact this
  · simp only [alook] at hl'
    split at hl'
    · rename_i h0
      subst h0
      cases hl'
      exact ⟨by omega, AV.idsL_shut _ _ hC, by rw [AV.renL_shut _ _ hC]; exact hl⟩
    · cases hl'
  · unfold AV.idsL
    rw [AV.idsL_shut _ _ hA]
    unfold AV.ids
    rfl
  · rintro rv σ1 ⟨rfl, g1, g2, g3⟩
    refine ⟨1, AV.ids_shut _ _ hR, Int.le_refl _, ⟨aset σ.objs id full, σ.toks, σ.next⟩, ⟨fun j c hj => ?_, fun j t hj => ?_, by show 1 - 1 + σ.next ≤ σ.next; omega⟩, AV.ren_shut _ _ hR, rfl⟩
    · simp only [alook_aset] at hj
      split at hj
      · rename_i h0
        subst h0
        rw [hl] at hj
        simp only [Option.map_some, Option.some.injEq] at hj
        subst hj
        exact .inl ⟨0, full, by omega, by omega, rfl, by rw [g2]; rfl, AV.idsL_shut _ _ hC, by rw [AV.renL_shut _ _ hC]⟩
      · rename_i h0
        exact .inr ⟨hj, fun i _ _ => h0⟩
    · refine .inr ⟨hj, fun i _ _ h0 => ?_⟩
      subst h0
      rw [htk] at hj; cases hj
/-! ### Freezing a buffer in what is yielded -/
mutual
def AV.sub (id : Int) (off n c : Nat) (s : AV) : AV → AV
  | .buf i o m d => if i = id ∧ o = off ∧ m = n ∧ d = c then s else .buf i o m d
  | .agg cs => .agg (AV.subL id off n c s cs)
  | .tup cs => .tup (AV.subL id off n c s cs)
  | .sl own cells n => .sl own cells n
  | .nils => .nils
  | .iface t a => .iface t a
  | .any => .any
  | .und => .und
  | .int k n => .int k n
  | .bool b => .bool b
  | .str s => .str s
  | .nilp => .nilp
  | .ptr i o => .ptr i o
  | .row i o n => .row i o n
  | .nilm => .nilm
  | .map i => .map i
  | .nili => .nili
  | .epr cells n => .epr cells n
  | .fn f a b => .fn f a b
def AV.subL (id : Int) (off n c : Nat) (s : AV) : List AV → List AV
  | [] => []
  | a :: r => AV.sub id off n c s a :: AV.subL id off n c s r
end
mutual
theorem Reps.sub {id : Int} {off n c : Nat} {s : AV} (H : ∀ v, Reps M w (.buf id off n c) v → Reps M w s v) : ∀ (a : AV) (v : Value), Reps M w a v → Reps M w (AV.sub id off n c s a) v
  | .buf i o m d, v, h => by
    unfold AV.sub
    split
    · rename_i h0
      obtain ⟨rfl, rfl, rfl, rfl⟩ := h0
      exact H v h
    · exact h
  | .agg cs, v, h => by
    unfold AV.sub; unfold Reps at h ⊢
    obtain ⟨vs, h1, h2⟩ := h
    exact ⟨vs, h1, RepsL.sub H cs _ h2⟩
  | .tup cs, v, h => by
    unfold AV.sub; unfold Reps at h ⊢
    obtain ⟨vs, h1, h2⟩ := h
    exact ⟨vs, h1, RepsL.sub H cs _ h2⟩
  | .sl own cells n, v, h => by unfold AV.sub; exact h
  | .nils, v, h => by unfold AV.sub; exact h
  | .iface t a, v, h => by unfold AV.sub; exact h
  | .any, v, h => by unfold AV.sub; exact h
  | .und, v, h => by unfold AV.sub; exact h
  | .int _ _, v, h => by unfold AV.sub; exact h
  | .bool _, v, h => by unfold AV.sub; exact h
  | .str _, v, h => by unfold AV.sub; exact h
  | .nilp, v, h => by unfold AV.sub; exact h
  | .ptr _ _, v, h => by unfold AV.sub; exact h
  | .row _ _ _, v, h => by unfold AV.sub; exact h
  | .nilm, v, h => by unfold AV.sub; exact h
  | .map _, v, h => by unfold AV.sub; exact h
  | .nili, v, h => by unfold AV.sub; exact h
  | .epr _ _, v, h => by unfold AV.sub; exact h
  | .fn _ _ _, v, h => by unfold AV.sub; exact h
theorem RepsL.sub {id : Int} {off n c : Nat} {s : AV} (H : ∀ v, Reps M w (.buf id off n c) v → Reps M w s v) : ∀ (l : List AV) (vs : List Value), RepsL M w l vs → RepsL M w (AV.subL id off n c s l) vs
  | [], vs, h => by unfold AV.subL; exact h
  | a :: r, vs, h => by
    unfold AV.subL; unfold RepsL at h ⊢
    obtain ⟨v, vr, h1, h2, h3⟩ := h
    exact ⟨v, vr, h1, Reps.sub H a v h2, RepsL.sub H r vr h3⟩
end
theorem AVal.mkf {f : FuncId} {args : List AV} {R : AV} (hA : AV.shutL args = true) (hR : R.shut = true)
    (h : ACalls P f args ⟨[], [], 0⟩ (fun rv σ1 => rv.wk = R ∨ ∃ id off n c cells k, 0 ≤ id ∧ alook σ1.objs id = some cells ∧ (n = 0 → (cells.drop off).take k = []) ∧ (AV.sub id off n c (.sl .none ((cells.drop off).take k) n) rv).wk = R)) : AVal P f args R := by
  intro σ base Fi M w vs S hr
  refine (seen_none h hA S hr).mono ?_
  rintro e w' ⟨rv, σ2, M', v, hk, he, hv, S2, TM, S3, hL, TS⟩
  rcases hk with hk | ⟨id, off, n, c, cells, k, hid, hl, h0, hk⟩
  · exact ⟨R, σ, M, v, ⟨rfl, rfl⟩, he, Reps.less hL R v hR (hk ▸ Reps.wk rv v hv), S3, TM⟩
  · obtain ⟨hF, b, us, ety, g1, g2, g3, g4⟩ := S2.obs id cells hl
    have T2 := frz_stp S2 hl
    have hL2 : Less (M'.frz id) M := by
      intro b' j hs
      by_cases hb : b' = b
      · subst hb
        refine ⟨fun i hi => ?_, fun i T0 e' ce h1 h2 => ?_⟩
        · have hi' : i - σ.next < 0 := by
            have : i < σ.next := Int.lt_of_not_ge fun hle => by rw [(S.fresh i hle).1] at hi; cases hi
            omega
          have h1 := TS.ob (i - σ.next) b' (by rw [sh_ob]; exact hi)
          have := S2.inj (i - σ.next) id b' h1 g1
          omega
        · obtain ⟨T1, k1, k2, k3⟩ := TS.tk (i - σ.next) T0 (by rw [sh_tk]; exact h1)
          rcases k3 with rfl | ⟨_, k3⟩
          · exact absurd h2 (S2.dis id (i - σ.next) b' T1 e' ce g1 k1)
          · have : i < σ.next := Int.lt_of_not_ge fun hle => by rw [(S.fresh i hle).2.1] at h1; cases h1
            exact absurd (show i - σ.next < 0 by omega) k3
      · refine hL b' j ⟨fun i hi => ?_, hs.2⟩
        rcases hs.1 i hi with rfl | h2
        · rw [g1] at hi; cases hi; exact absurd rfl hb
        · exact h2
    have hv2 := Reps.stp T2 rv v hv
    have hv3 : Reps (M'.frz id) w' (AV.sub id off n c (.sl .none ((cells.drop off).take k) n) rv) v := by
      refine Reps.sub (fun u hu => ?_) rv v hv2
      obtain ⟨b', q1, rfl, q2, q3⟩ := buf_inv hu
      have q1' : M'.ob id = some b' := q1
      rw [g1] at q1'; cases q1'
      unfold Reps
      refine ⟨_, c, (us.toList.drop off).take k, rfl, q2, q3, (fun h => by cases h), .inr ⟨b, off, rfl, fun j u hu => ?_⟩, ((RepsL.stp T2 _ _ g4).drop off).take k, h0, trivial⟩
      rw [List.getElem?_take] at hu
      split at hu
      · rw [List.getElem?_drop] at hu
        refine ⟨by rw [cell_of_row w' _ _ _ _ _ g3]; simpa using hu, fun i hi => .inl (S2.inj i id b hi g1), fun i Tk e' ce h9 h10 => absurd h10 (S2.dis id i b Tk e' ce g1 h9)⟩
      · cases hu
    exact ⟨R, σ, M, v, ⟨rfl, rfl⟩, he, Reps.less hL2 R v hR (hk ▸ Reps.wk _ v hv3), S3, TM⟩
/-! ### A call that only looks -/
mutual
/-- A value without memory. -/
def AV.plain : AV → Bool
  | .int _ _ | .bool _ | .str _ | .nilp | .nils | .nilm | .nili | .und | .any => true
  | .tup cs => AV.plainL cs
  | .agg cs => AV.plainL cs
  | _ => false
def AV.plainL : List AV → Bool
  | [] => true
  | a :: r => a.plain && AV.plainL r
end
mutual
theorem Reps.plain {M M' : MM} {w w' : World} : ∀ (a : AV) (v : Value), a.plain = true → Reps M w a v → Reps M' w' a v
  | .int _ _, v, _, h => by unfold Reps at h ⊢; exact h
  | .bool _, v, _, h => by unfold Reps at h ⊢; exact h
  | .str _, v, _, h => by unfold Reps at h ⊢; exact h
  | .nilp, v, _, h => by unfold Reps at h ⊢; exact h
  | .nils, v, _, h => by unfold Reps at h ⊢; exact h
  | .nilm, v, _, h => by unfold Reps at h ⊢; exact h
  | .nili, v, _, h => by unfold Reps at h ⊢; exact h
  | .und, v, _, h => by unfold Reps at h ⊢; exact h
  | .any, v, _, h => by unfold Reps; trivial
  | .tup cs, v, hp, h => by
    unfold Reps at h ⊢; unfold AV.plain at hp
    obtain ⟨vs, h1, h2⟩ := h
    exact ⟨vs, h1, RepsL.plain cs _ hp h2⟩
  | .agg cs, v, hp, h => by
    unfold Reps at h ⊢; unfold AV.plain at hp
    obtain ⟨vs, h1, h2⟩ := h
    exact ⟨vs, h1, RepsL.plain cs _ hp h2⟩
  | .sl _ _ _, v, hp, h => by simp [AV.plain] at hp
  | .iface _ _, v, hp, h => by simp [AV.plain] at hp
  | .ptr _ _, v, hp, h => by simp [AV.plain] at hp
  | .row _ _ _, v, hp, h => by simp [AV.plain] at hp
  | .buf _ _ _ _, v, hp, h => by simp [AV.plain] at hp
  | .map _, v, hp, h => by simp [AV.plain] at hp
  | .epr _ _, v, hp, h => by simp [AV.plain] at hp
  | .fn _ _ _, v, hp, h => by simp [AV.plain] at hp
theorem RepsL.plain {M M' : MM} {w w' : World} : ∀ (l : List AV) (vs : List Value), AV.plainL l = true → RepsL M w l vs → RepsL M' w' l vs
  | [], vs, _, h => by unfold RepsL at h ⊢; exact h
  | a :: r, vs, hp, h => by
    unfold RepsL at h ⊢; unfold AV.plainL at hp
    rw [Bool.and_eq_true] at hp
    obtain ⟨v, vr, h1, h2, h3⟩ := h
    exact ⟨v, vr, h1, Reps.plain a v hp.1 h2, RepsL.plain r vr hp.2 h3⟩
end
mutual
/-- What is there now, as if it never turned. -/
def AV.vw (sz : Nat) (objs : List (Int × List AV)) : AV → AV
  | .buf id off n c => match alook objs id with
    | some full => if AV.shutL full = true then .sl .none ((full.drop off).take (n * sz)) n else .any
    | none => .any
  | .ptr id o => match alook objs id with
    | some full => if AV.shutL full = true then .epr full o else .any
    | none => .any
  | .fn f a b => .fn f (AV.vwL sz objs a) (AV.vwL sz objs b)
  | .agg cs => .agg (AV.vwL sz objs cs)
  | .sl own cells n => if AV.shutL cells = true then .sl .none cells n else .any
  | .int k n => .int k n
  | .bool b => .bool b
  | .str s => .str s
  | .nils => .nils
  | .nilp => .nilp
  | .nili => .nili
  | .nilm => .nilm
  | .und => .und
  | .any => .any
  | .tup _ => .any
  | .iface t a => if a.shut = true then .iface t a else .any
  | .row _ _ _ => .any
  | .map _ => .any
  | .epr cells n => if AV.shutL cells = true then .epr cells n else .any
def AV.vwL (sz : Nat) (objs : List (Int × List AV)) : List AV → List AV
  | [] => []
  | a :: r => a.vw sz objs :: AV.vwL sz objs r
end
theorem less_none : Less M MM.none := fun b j _ => stab_none b j
mutual
theorem Reps.vw (S : St base Fi M w σ) (sz : Nat) : ∀ (a : AV) (v : Value), Reps M w a v → Reps MM.none w (a.vw sz σ.objs) v
  | .buf id off n c, v, h => by
    unfold AV.vw
    split
    · rename_i full hl
      split
      · rename_i hs
        obtain ⟨b, h0, rfl, q2, q3⟩ := buf_inv h
        obtain ⟨_, b', us, e, g1, g2, g3, g4⟩ := S.obs id full hl
        rw [h0] at g1; cases g1
        unfold Reps
        refine ⟨_, c, (us.toList.drop off).take (n * sz), rfl, q2, q3, (fun h => by cases h), .inr ⟨b, off, rfl, fun j u hu => ?_⟩, ((RepsL.less less_none _ _ hs g4).drop off).take _, fun h0 => by rw [h0, Nat.zero_mul, List.take_zero], trivial⟩
        rw [List.getElem?_take] at hu
        split at hu
        · rw [List.getElem?_drop] at hu
          exact ⟨by rw [cell_of_row w _ _ _ _ _ g3]; simpa using hu, stab_none _ _⟩
        · cases hu
      · unfold Reps; trivial
    · unfold Reps; trivial
  | .ptr id o, v, h => by
    unfold AV.vw
    split
    · rename_i full hl
      split
      · rename_i hs
        unfold Reps at h
        obtain ⟨b, h0, rfl⟩ := h
        obtain ⟨_, b', us, e, g1, g2, g3, g4⟩ := S.obs id full hl
        rw [h0] at g1; cases g1
        unfold Reps
        refine ⟨b, 0, us.toList, by rw [Nat.zero_add], fun j u hu => ?_, RepsL.less less_none _ _ hs g4⟩
        rw [Nat.zero_add]
        exact ⟨by rw [cell_of_row w _ _ _ _ _ g3]; simpa using hu, stab_none _ _⟩
      · unfold Reps; trivial
    · unfold Reps; trivial
  | .fn f a b, v, h => by
    unfold AV.vw; unfold Reps at h ⊢
    obtain ⟨fs, cs, h1, h2, h3⟩ := h
    exact ⟨fs, cs, h1, RepsL.vw S sz a _ h2, RepsL.vw S sz b _ h3⟩
  | .agg cs, v, h => by
    unfold AV.vw; unfold Reps at h ⊢
    obtain ⟨vs, h1, h2⟩ := h
    exact ⟨vs, h1, RepsL.vw S sz cs _ h2⟩
  | .sl own cells n, v, h => by
    unfold AV.vw
    split
    · rename_i hs
      unfold Reps at h ⊢
      obtain ⟨A, c, vs, h1, h2, h3, h4, h5, h6, h7, h8⟩ := h
      exact ⟨A, c, vs, h1, h2, h3, h4, h5.imp (fun h => h) fun ⟨b, o, hA, hm⟩ => ⟨b, o, hA, fun j u hu => ⟨(hm j u hu).1, stab_none _ _⟩⟩, RepsL.less less_none _ _ hs h6, h7, trivial⟩
    · unfold Reps; trivial
  | .iface t a, v, h => by
    unfold AV.vw
    split
    · rename_i hs
      exact Reps.less less_none _ _ (by unfold AV.shut; exact hs) h
    · unfold Reps; trivial
  | .epr cells n, v, h => by
    unfold AV.vw
    split
    · rename_i hs
      exact Reps.less less_none _ _ (by unfold AV.shut; exact hs) h
    · unfold Reps; trivial
  | .int _ _, v, h => by unfold AV.vw; unfold Reps at h ⊢; exact h
  | .bool _, v, h => by unfold AV.vw; unfold Reps at h ⊢; exact h
  | .str _, v, h => by unfold AV.vw; unfold Reps at h ⊢; exact h
  | .nils, v, h => by unfold AV.vw; unfold Reps at h ⊢; exact h
  | .nilp, v, h => by unfold AV.vw; unfold Reps at h ⊢; exact h
  | .nili, v, h => by unfold AV.vw; unfold Reps at h ⊢; exact h
  | .nilm, v, h => by unfold AV.vw; unfold Reps at h ⊢; exact h
  | .und, v, h => by unfold AV.vw; unfold Reps at h ⊢; exact h
  | .any, v, h => by unfold AV.vw; unfold Reps; trivial
  | .tup _, v, h => by unfold AV.vw; unfold Reps; trivial
  | .row _ _ _, v, h => by unfold AV.vw; unfold Reps; trivial
  | .map _, v, h => by unfold AV.vw; unfold Reps; trivial
theorem RepsL.vw (S : St base Fi M w σ) (sz : Nat) : ∀ (l : List AV) (vs : List Value), RepsL M w l vs → RepsL MM.none w (AV.vwL sz σ.objs l) vs
  | [], vs, h => by unfold AV.vwL; unfold RepsL at h ⊢; exact h
  | a :: r, vs, h => by
    unfold AV.vwL; unfold RepsL at h ⊢
    obtain ⟨v, vr, h1, h2, h3⟩ := h
    exact ⟨v, vr, h1, Reps.vw S sz a v h2, RepsL.vw S sz r vr h3⟩
end
/-- A call that yields no memory, of what is there now. -/
theorem AVal.view {f : FuncId} {args args' : List AV} {R : AV} (sz : Nat) (hv : AV.vwL sz σ.objs args = args') (h : AVal P f args' R) (hR : R.plain = true) : ACalls P f args σ (fun rv σ' => rv = R ∧ σ' = σ) := by
  intro base Fi M w vs S hr
  refine (h ⟨[], [], 0⟩ w.heap.size (fun _ => False) MM.none w vs (St.none w 0) (hv ▸ RepsL.vw S sz args vs hr)).mono ?_
  rintro e w' ⟨rv, σ', M', v, ⟨rfl, _⟩, he, hrv, _, T⟩
  have G := Below.grew (Stp.below_ T)
  exact ⟨_, σ, M, v, ⟨rfl, rfl⟩, he, Reps.plain _ _ hR hrv, G.st S, G.stp S⟩
theorem R_call_view {f : Operand} {g : FuncId} {first cap : List AV} {as_ : List Operand} {ats : Array TypeId} {args args' : List AV} {R : AV} (sz : Nat) (hf : aev sl f = .fn g first cap) (ha : argsF sl first as_ cap = some args) (hv : AV.vwL sz objs args = args') (h : AVal P g args' R) (hR : R.plain = true) (hc : ∀ (vs : Array Value) (w : World), (callFunc g vs).run P w = .ok (.enter g vs) w) (hs : aput sl dst R = sl') (hk : AOPS P ops r sl' ⟨objs, toks, next⟩ Q) : AOPS P ops (⟨dst, .call { callee := .value f, args := as_.toArray, argTypes := ats }, ty, pos, after, none⟩ :: r) sl ⟨objs, toks, next⟩ Q :=
  S_call hf (argsF_ok ha) (AVal.view (σ := ⟨objs, toks, next⟩) sz hv h hR) hc hs hk
theorem R_call_k {f : Operand} {g : FuncId} {first cap : List AV} {as_ : List Operand} {ats : Array TypeId} {args : List AV} {K : AV → ASt → Prop} (hf : aev sl f = .fn g first cap) (ha : argsF sl first as_ cap = some args) (h : ACalls P g args σ K) (hc : ∀ (vs : Array Value) (w : World), (callFunc g vs).run P w = .ok (.enter g vs) w) (hk : ∀ rv σ', K rv σ' → AOPS P ops r (aput sl dst rv) σ' Q) : AOPS P ops (⟨dst, .call { callee := .value f, args := as_.toArray, argTypes := ats }, ty, pos, after, none⟩ :: r) sl σ Q :=
  AOPS_call hf (argsF_ok ha) hc h hk
theorem AOPS_weakS {l : List Oper} {σ1 : ASt} (hs : AWeakS σ1 σ) (h : AOPS P ops l sl σ1 Q) : AOPS P ops l sl σ Q := fun base Fi M0 w0 M a w hst hr => h base Fi M0 w0 M a w hst ⟨hr.1, hr.2.1, hr.2.2.weakS hs⟩
theorem AWP_weakS {c : Code} {σ1 : ASt} (hs : AWeakS σ1 σ) (h : AWP P c sl σ1 Q) : AWP P c sl σ Q := fun base Fi M0 w0 M a w hst hr => h base Fi M0 w0 M a w hst ⟨hr.1, hr.2.1, hr.2.2.weakS hs⟩
/-- Of two objects the first is kept. -/
theorem ASub.drop2 {id id2 : Int} {c c2 : List AV} {t : List (Int × Tq)} {nx : Int} : ASub ⟨[(id, c)], t, nx⟩ ⟨[(id, c), (id2, c2)], t, nx⟩ := by
  refine ⟨fun i cs hl => ?_, fun i cs hl => hl, Int.le_refl _⟩
  simp only [alook] at hl ⊢
  split at hl
  · rename_i h; rw [if_pos h]; exact hl
  · cases hl
/-! ### append of a buffer's elements, that makes a slice -/
theorem T_append_nilsS {t e tx : TypeId} {sz by_ : Nat} {cells2 : List AV} {m : Nat} {av : AV} (hx : aev sl x = .nils) (hy : aevo sl y = some av) [T : TySl P t e sz by_] (hS : SrcS P sz tx av cells2 m ⟨objs, toks, next⟩) (hb : m * by_ ≤ 140737488355328 ∧ m ≤ 1000000000000) (hs : aput sl dst (.sl (.tok next m sz) cells2 m) = sl') (h : AOPS P ops r sl' ⟨objs, (next, .top m) :: toks, next + 1⟩ Q) : AOPS P ops (⟨dst, .call { callee := .builtin .append, args := #[x, y], argTypes := #[t, tx] }, ty, pos, after, none⟩ :: r) sl ⟨objs, toks, next⟩ Q :=
  AOPS_eff (av := .sl (.tok next m sz) cells2 m) rfl (fun base Fi M a w hr => by
    have h1 := ev1 hr.2.1 hx
    have h2 := ev1 hr.2.1 (aevo_eq hy)
    unfold Reps at h1
    obtain ⟨news, h3, h4⟩ := hS _ _ _ _ _ hr.2.2 h2
    obtain ⟨v, w', M', h5, h6, h7, h8⟩ := append_new (ty := ty) hr.2.2 (A := none) (n := 0) (vs := []) (cells := []) (t := t) (by simp) (.inl rfl) (fun _ => rfl) RepsL.nil (by simp) h3 h4 (by simp only [maxLen]; omega) (by simpa using hb.1)
    simp only [Nat.zero_add, List.nil_append] at h6 h7
    exact ⟨v, w', M', .inl (exec_append h1 rfl h5), h6, h7, h8⟩) hs h
theorem T_append_fullS {t e tx : TypeId} {sz by_ : Nat} {cells cells2 : List AV} {n m : Nat} {av : AV} (hx : aev sl x = .sl .full cells n) (hy : aevo sl y = some av) [T : TySl P t e sz by_] (hS : SrcS P sz tx av cells2 m ⟨objs, toks, next⟩) (hl : cells.length = n * sz) (hb : (n + m) * by_ ≤ 140737488355328 ∧ n + m ≤ 1000000000000) (hs : aput sl dst (.sl (.tok next (n + m) sz) (cells ++ cells2) (n + m)) = sl') (h : AOPS P ops r sl' ⟨objs, (next, .top (n + m)) :: toks, next + 1⟩ Q) : AOPS P ops (⟨dst, .call { callee := .builtin .append, args := #[x, y], argTypes := #[t, tx] }, ty, pos, after, none⟩ :: r) sl ⟨objs, toks, next⟩ Q :=
  AOPS_eff (av := .sl (.tok next (n + m) sz) (cells ++ cells2) (n + m)) rfl (fun base Fi M a w hr => by
    have h1 := ev1 hr.2.1 hx
    have h2 := ev1 hr.2.1 (aevo_eq hy)
    unfold Reps at h1
    obtain ⟨A, c, vs, h1, k2, k3, k4, k5, k6, k7, k8⟩ := h1
    simp only [OwnOk] at k8
    subst k8
    obtain ⟨news, h3, h4⟩ := hS _ _ _ _ _ hr.2.2 h2
    obtain ⟨v, w', M', h5, h6, h7, h8⟩ := append_new (ty := ty) hr.2.2 (t := t) k3 k5 k4 k6 hl h3 h4 (by simp only [maxLen]; omega) hb.1
    exact ⟨v, w', M', .inl (exec_append h1 rfl h5), h6, h7, h8⟩) hs h
end Go.Proofs.Ytnjkklkjlloedaa
