/- The abstract machine: methods of one object, and functions that make one. -/
import Derived.Test.YtnjkklkjlloedaaAm16
namespace Go.Proofs.Ytnjkklkjlloedaa
open Go.RowKit
set_option linter.unusedVariables false
set_option linter.unusedSimpArgs false
variable {base : Nat} {Fi : Int → Prop} {M : MM} {w w' : World}
variable {P : Program} {ops : Array Oper} {r : List Oper} {sl sl' : List AV} {σ σ' : ASt} {Q : Exit → List AV → ASt → Prop}
variable {dst : Option Tmp} {ty : TypeId} {pos : String} {after : Array Edge} {objs : List (Int × List AV)} {toks : List (Int × Nat)} {next : Int}

/-- What is known of the store, weakened. -/
structure AWeak (σ1 σ : ASt) : Prop where
  objs : ∀ id c, alook σ1.objs id = some c → ∃ c0, alook σ.objs id = some c0 ∧ (c = c0 ∨ c = AV.fgL c0)
  toks : ∀ id t, alook σ1.toks id = some t → alook σ.toks id = some t
  next : σ.next ≤ σ1.next
theorem St.weak (S : St base Fi M w σ) {σ1 : ASt} (h : AWeak σ1 σ) : St base Fi M w σ1 := by
  refine ⟨S.base_le, fun id c hl => ?_, fun id t hl => S.tks id t (h.toks id t hl), S.inj, S.dis, S.tinj, S.obsz, S.tksz, fun id hid => S.fresh id (Int.le_trans h.next hid)⟩
  obtain ⟨c0, h1, h2⟩ := h.objs id c hl
  obtain ⟨g1, b, us, e, g2, g3, g4, g5⟩ := S.obs id c0 h1
  refine ⟨g1, b, us, e, g2, g3, g4, ?_⟩
  rcases h2 with rfl | rfl
  · exact g5
  · exact RepsL.fg _ _ g5
theorem ACalls.weak {f : FuncId} {args : List AV} {K K' : AV → ASt → Prop} (h : ACalls P f args σ K) (hk : ∀ r σ', K r σ' → ∃ r1 σ1, (r1 = r ∨ r1 = r.fg) ∧ AWeak σ1 σ' ∧ K' r1 σ1) : ACalls P f args σ K' := by
  intro base Fi M w vs S hr
  refine (h base Fi M w vs S hr).mono ?_
  rintro e w' ⟨r, σ', M', v, h1, h2, h3, h4, h5⟩
  obtain ⟨r1, σ1, k1, k2, k3⟩ := hk _ _ h1
  refine ⟨r1, σ1, M', v, k3, h2, ?_, h4.weak k2, h5⟩
  rcases k1 with rfl | rfl
  · exact h3
  · exact Reps.fg _ _ h3

/-- A method of an object: what it answers, and the object behind it. -/
def AMth (P : Program) (f : FuncId) (cells args : List AV) (R : AV) (cells' : List AV) : Prop :=
  ∀ (id : Int) (σ : ASt), alook σ.objs id = some cells → alook σ.toks id = none → id < σ.next → ACalls P f (.ptr id 0 :: args) σ (fun rv σ' => rv = R ∧ σ' = ⟨aset σ.objs id cells', σ.toks, σ.next⟩)
theorem AMth.mk {f : FuncId} {cells args cells' : List AV} {R : AV} (hA : AV.shutL args = true) (hC : AV.shutL cells = true) (hR : R.shut = true) (hC' : AV.shutL cells' = true)
    (h : ACalls P f (.ptr 0 0 :: args) ⟨[(0, cells)], [], 1⟩ (fun rv σ1 => (rv = R ∨ rv.fg = R) ∧ 1 ≤ σ1.next ∧ ∃ c1, alook σ1.objs 0 = some c1 ∧ (c1 = cells' ∨ AV.fgL c1 = cells'))) : AMth P f cells args R cells' := by
  intro id σ hl htk hlt
  have h1 : ACalls P f (.ptr 0 0 :: args) ⟨[(0, cells)], [], 1⟩ (fun rv σ1 => rv = R ∧ 1 ≤ σ1.next ∧ σ1.objs = [(0, cells')] ∧ σ1.toks = []) := by
    refine h.weak ?_
    rintro r σ' ⟨g1, g2, c1, g3, g4⟩
    refine ⟨R, ⟨[(0, cells')], [], σ'.next⟩, ?_, ⟨fun id c hl => ?_, fun id t hl => by simp [alook] at hl, Int.le_refl _⟩, rfl, g2, rfl, rfl⟩
    · rcases g1 with g1 | g1
      · exact .inl g1.symm
      · exact .inr g1.symm
    · simp only [alook] at hl
      split at hl
      · rename_i h0
        subst h0
        cases hl
        exact ⟨c1, g3, by rcases g4 with g4 | g4; exact .inl g4.symm; exact .inr g4.symm⟩
      · cases hl
  have hargs : AV.renL (rho 1 (fun _ => id) σ.next) (.ptr 0 0 :: args) = .ptr id 0 :: args := by
    unfold AV.renL
    rw [AV.renL_shut _ _ hA]
    unfold AV.ren
    rfl
  have := ACalls.move (σ := σ) (K := fun rv σ' => rv = R ∧ σ' = ⟨aset σ.objs id cells', σ.toks, σ.next⟩) h1 1 (by omega) rfl (fun _ => id) (fun _ _ _ => hlt) (fun i i' _ _ _ _ _ => by omega) (fun i c hl' => ?_) (fun i t hl' => by simp [alook] at hl') ?_ ?_
  · rwa [hargs] at this
  · simp only [alook] at hl'
    split at hl'
    · rename_i h0
      subst h0
      cases hl'
      exact ⟨by omega, AV.idsL_shut _ _ hC, by rw [AV.renL_shut _ _ hC]; exact hl⟩
    · cases hl'
  · unfold AV.idsL
    rw [AV.idsL_shut _ _ hA]
    unfold AV.ids
    rfl
  · rintro rv σ1 ⟨rfl, g1, g2, g3⟩
    refine ⟨1, AV.ids_shut _ _ hR, Int.le_refl _, ⟨aset σ.objs id cells', σ.toks, σ.next⟩, ⟨fun j c hj => ?_, fun j t hj => ?_, by show 1 - 1 + σ.next ≤ σ.next; omega⟩, AV.ren_shut _ _ hR, rfl⟩
    · simp only [alook_aset] at hj
      split at hj
      · rename_i h0
        subst h0
        rw [hl] at hj
        simp only [Option.map_some, Option.some.injEq] at hj
        subst hj
        exact .inl ⟨0, cells', by omega, by omega, rfl, by rw [g2]; rfl, AV.idsL_shut _ _ hC', by rw [AV.renL_shut _ _ hC']⟩
      · rename_i h0
        exact .inr ⟨hj, fun i _ _ => h0⟩
    · refine .inr ⟨hj, fun i _ _ h0 => ?_⟩
      subst h0
      rw [htk] at hj; cases hj
/-- A function that makes an object, as its d-th thing. -/
def ANew (P : Program) (f : FuncId) (args cells : List AV) (d : Int) : Prop := ∀ σ, ACalls P f args σ (fun rv σ' => rv = .ptr (d + σ.next) 0 ∧ σ' = ⟨(d + σ.next, cells) :: σ.objs, σ.toks, d + 1 + σ.next⟩)
theorem ANew.mk {f : FuncId} {args cells : List AV} {d : Int} (hd : 0 ≤ d) (hA : AV.shutL args = true) (hC : AV.shutL cells = true)
    (h : ACalls P f args ⟨[], [], 0⟩ (fun rv σ1 => rv = .ptr d 0 ∧ ∃ c1, alook σ1.objs d = some c1 ∧ (c1 = cells ∨ AV.fgL c1 = cells))) : ANew P f args cells d := by
  intro σ
  have h1 : ACalls P f args ⟨[], [], 0⟩ (fun rv σ1 => rv = .ptr d 0 ∧ σ1.objs = [(d, cells)] ∧ σ1.toks = []) := by
    refine h.weak ?_
    rintro r σ' ⟨rfl, c1, g3, g4⟩
    refine ⟨.ptr d 0, ⟨[(d, cells)], [], σ'.next⟩, .inl rfl, ⟨fun id c hl => ?_, fun id t hl => by simp [alook] at hl, Int.le_refl _⟩, rfl, rfl, rfl⟩
    simp only [alook] at hl
    split at hl
    · rename_i h0
      subst h0
      cases hl
      exact ⟨c1, g3, by rcases g4 with g4 | g4; exact .inl g4.symm; exact .inr g4.symm⟩
    · cases hl
  have := ACalls.move (σ := σ) (K := fun rv σ' => rv = .ptr (d + σ.next) 0 ∧ σ' = ⟨(d + σ.next, cells) :: σ.objs, σ.toks, d + 1 + σ.next⟩) h1 0 (by omega) rfl (fun i => i) (fun i _ _ => by omega) (fun i i' _ _ _ _ h => h) (fun i c hl' => by simp [alook] at hl') (fun i t hl' => by simp [alook] at hl') (AV.idsL_shut _ _ hA) ?_
  · rwa [AV.renL_shut _ _ hA] at this
  · rintro rv σ1 ⟨rfl, g2, g3⟩
    have hrho : rho 0 (fun i => i) σ.next d = d + σ.next := by unfold rho; rw [if_neg (by omega)]; omega
    refine ⟨d + 1, by unfold AV.ids; exact inK_iff.2 ⟨hd, by omega⟩, by omega, ⟨(d + σ.next, cells) :: σ.objs, σ.toks, d + 1 + σ.next⟩, ⟨fun j c hj => ?_, fun j t hj => .inr ⟨hj, fun i _ _ => by omega⟩, by show d + 1 - 0 + σ.next ≤ d + 1 + σ.next; omega⟩, by unfold AV.ren; rw [hrho], rfl⟩
    simp only [alook] at hj
    split at hj
    · rename_i h0
      cases hj
      exact .inl ⟨d, cells, hd, by omega, by rw [hrho]; exact h0, by rw [g2]; simp [alook], AV.idsL_shut _ _ hC, by rw [AV.renL_shut _ _ hC]⟩
    · exact .inr ⟨hj, fun i _ _ => by omega⟩

/-! ### In a walk -/
theorem S_call_mth {f : Operand} {g : FuncId} {first cap : List AV} {as_ : List Operand} {ats : Array TypeId} {args cells cells' : List AV} {id : Int} {R : AV} {objs' : List (Int × List AV)} (hf : aev sl f = .fn g first cap) (ha : first ++ as_.map (aev sl) ++ cap = .ptr id 0 :: args) (ho : alook objs id = some cells) (hto : alook toks id = none) (hlt : id < next) (h : AMth P g cells args R cells')
    (hc : ∀ (vs : Array Value) (w : World), (callFunc g vs).run P w = .ok (.enter g vs) w) (hob : asetF objs id cells' = some objs') (hs : aput sl dst R = sl') (hk : AOPS P ops r sl' ⟨objs', toks, next⟩ Q) : AOPS P ops (⟨dst, .call { callee := .value f, args := as_.toArray, argTypes := ats }, ty, pos, after, none⟩ :: r) sl ⟨objs, toks, next⟩ Q :=
  S_call hf ha (h id ⟨objs, toks, next⟩ ho hto hlt) hc hs (by rw [asetF_ok hob]; exact hk)
theorem S_call_new {f : Operand} {g : FuncId} {first cap : List AV} {as_ : List Operand} {ats : Array TypeId} {args cells : List AV} {d : Int} (hf : aev sl f = .fn g first cap) (ha : first ++ as_.map (aev sl) ++ cap = args) (h : ANew P g args cells d)
    (hc : ∀ (vs : Array Value) (w : World), (callFunc g vs).run P w = .ok (.enter g vs) w) (hs : aput sl dst (.ptr (d + next) 0) = sl') (hk : AOPS P ops r sl' ⟨(d + next, cells) :: objs, toks, d + 1 + next⟩ Q) : AOPS P ops (⟨dst, .call { callee := .value f, args := as_.toArray, argTypes := ats }, ty, pos, after, none⟩ :: r) sl ⟨objs, toks, next⟩ Q :=
  S_call hf ha (h _) hc hs hk
end Go.Proofs.Ytnjkklkjlloedaa
