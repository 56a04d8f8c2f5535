/- The abstract machine: calls that see several objects and buffers. -/
import Derived.Test.YtnjkklkjlloedaaMap
namespace Go.Proofs.Ytnjkklkjlloedaa
open Go.RowKit
set_option linter.unusedVariables false
set_option linter.unusedSimpArgs false
variable {P : Program} {ops : Array Oper} {r : List Oper} {sl sl' : List AV} {σ σ' : ASt} {Q : Exit → List AV → ASt → Prop}
variable {dst : Option Tmp} {ty : TypeId} {pos : String} {after : Array Edge} {objs : List (Int × List AV)} {toks : List (Int × Tq)} {next : Int}

theorem AOwn.ren_congr {p : Int → Bool} {ρ ρ' : Int → Int} (h : ∀ i, p i = true → ρ i = ρ' i) (o : AOwn) (ho : o.ids p = true) : o.ren ρ = o.ren ρ' := by
  cases o with
  | none => rfl
  | full => rfl
  | tok i t s =>
    have : ρ i = ρ' i := h i (by simpa [AOwn.ids] using ho)
    simp [AOwn.ren, this]
mutual
theorem AV.ren_congr {p : Int → Bool} {ρ ρ' : Int → Int} (h : ∀ i, p i = true → ρ i = ρ' i) : ∀ a : AV, a.ids p = true → a.ren ρ = a.ren ρ'
  | .sl own cells n, hi => by
    simp only [AV.ids, Bool.and_eq_true] at hi
    unfold AV.ren; rw [AOwn.ren_congr h own hi.1, AV.renL_congr h cells hi.2]
  | .epr cells n, hi => by unfold AV.ren; rw [AV.renL_congr h cells (by simpa [AV.ids] using hi)]
  | .fn f a b, hi => by
    simp only [AV.ids, Bool.and_eq_true] at hi
    unfold AV.ren; rw [AV.renL_congr h a hi.1, AV.renL_congr h b hi.2]
  | .iface t a, hi => by unfold AV.ren; rw [AV.ren_congr h a (by simpa [AV.ids] using hi)]
  | .agg cs, hi => by unfold AV.ren; rw [AV.renL_congr h cs (by simpa [AV.ids] using hi)]
  | .tup cs, hi => by unfold AV.ren; rw [AV.renL_congr h cs (by simpa [AV.ids] using hi)]
  | .ptr i o, hi => by unfold AV.ren; rw [h i (by simpa [AV.ids] using hi)]
  | .row i o n, hi => by unfold AV.ren; rw [h i (by simpa [AV.ids] using hi)]
  | .buf i o n c, hi => by unfold AV.ren; rw [h i (by simpa [AV.ids] using hi)]
  | .map i, hi => by unfold AV.ren; rw [h i (by simpa [AV.ids] using hi)]
  | .any, _ => by unfold AV.ren; rfl
  | .und, _ => by unfold AV.ren; rfl
  | .int _ _, _ => by unfold AV.ren; rfl
  | .bool _, _ => by unfold AV.ren; rfl
  | .str _, _ => by unfold AV.ren; rfl
  | .nilp, _ => by unfold AV.ren; rfl
  | .nils, _ => by unfold AV.ren; rfl
  | .nilm, _ => by unfold AV.ren; rfl
  | .nili, _ => by unfold AV.ren; rfl
theorem AV.renL_congr {p : Int → Bool} {ρ ρ' : Int → Int} (h : ∀ i, p i = true → ρ i = ρ' i) : ∀ l : List AV, AV.idsL p l = true → AV.renL ρ l = AV.renL ρ' l
  | [], _ => rfl
  | a :: r, hi => by
    simp only [AV.idsL, Bool.and_eq_true] at hi
    unfold AV.renL; rw [AV.ren_congr h a hi.1, AV.renL_congr h r hi.2]
end

/-! ### What is looked up, and set -/
abbrev OL := List (Int × List AV × List AV)
abbrev TL := List (Int × Tq × Tq)
def LookO (objs : List (Int × List AV)) : OL → Prop
  | [] => True
  | e :: r => alook objs e.1 = some e.2.1 ∧ LookO objs r
def LookT (toks : List (Int × Tq)) : TL → Prop
  | [] => True
  | e :: r => alook toks e.1 = some e.2.1 ∧ LookT toks r
def IdsO (toks : List (Int × Tq)) (next : Int) : OL → Prop
  | [] => True
  | e :: r => (alook toks e.1 = none ∧ e.1 < next) ∧ IdsO toks next r
def IdsT (objs : List (Int × List AV)) (next : Int) : TL → Prop
  | [] => True
  | e :: r => (alook objs e.1 = none ∧ e.1 < next) ∧ IdsT objs next r
def SetO (objs : List (Int × List AV)) : OL → List (Int × List AV)
  | [] => objs
  | e :: r => SetO (aset objs e.1 e.2.2) r
def SetT (toks : List (Int × Tq)) : TL → List (Int × Tq)
  | [] => toks
  | e :: r => SetT (aset toks e.1 e.2.2) r
def setOF (objs : List (Int × List AV)) : OL → Option (List (Int × List AV))
  | [] => some objs
  | (id, _, c') :: r => match asetF objs id c' with
    | some o => setOF o r
    | none => none
def setTF (toks : List (Int × Tq)) : TL → Option (List (Int × Tq))
  | [] => some toks
  | (id, _, c') :: r => match asetF toks id c' with
    | some o => setTF o r
    | none => none
theorem setOF_ok : ∀ {os : OL} {objs o : List (Int × List AV)}, setOF objs os = some o → SetO objs os = o
  | [], _, _, h => by simp only [setOF, Option.some.injEq] at h; exact h
  | (id, c0, c') :: r, objs, o, h => by
    simp only [setOF] at h
    split at h
    · rename_i o' ho
      unfold SetO
      rw [asetF_ok ho]
      exact setOF_ok h
    · cases h
theorem setTF_ok : ∀ {os : TL} {objs o : List (Int × Tq)}, setTF objs os = some o → SetT objs os = o
  | [], _, _, h => by simp only [setTF, Option.some.injEq] at h; exact h
  | (id, c0, c') :: r, objs, o, h => by
    simp only [setTF] at h
    split at h
    · rename_i o' ho
      unfold SetT
      rw [asetF_ok ho]
      exact setTF_ok h
    · cases h
def sysIds (os : OL) (ts : TL) : List Int := os.map (·.1) ++ ts.map (·.1)
/-- A call that sees these objects and buffers, and turns them to those. -/
def ASys (P : Program) (g : FuncId) (args : List AV) (R : AV) (os : OL) (ts : TL) : Prop :=
  ∀ σ : ASt, LookO σ.objs os → LookT σ.toks ts → IdsO σ.toks σ.next os → IdsT σ.objs σ.next ts → (sysIds os ts).Nodup → ACalls P g args σ (fun rv σ' => rv = R ∧ σ' = ⟨SetO σ.objs os, SetT σ.toks ts, σ.next⟩)

theorem LookO.set : ∀ {os : OL} {objs : List (Int × List AV)} {id : Int} {c : List AV}, LookO objs os → (∀ e ∈ os, e.1 ≠ id) → LookO (aset objs id c) os
  | [], _, _, _, _, _ => trivial
  | e :: r, objs, id, c, h, hn => by
    refine ⟨?_, LookO.set h.2 fun e he => hn e (List.mem_cons_of_mem _ he)⟩
    rw [alook_aset, if_neg (fun he => hn e List.mem_cons_self he.symm)]
    exact h.1
theorem LookT.set : ∀ {os : TL} {objs : List (Int × Tq)} {id : Int} {c : Tq}, LookT objs os → (∀ e ∈ os, e.1 ≠ id) → LookT (aset objs id c) os
  | [], _, _, _, _, _ => trivial
  | e :: r, objs, id, c, h, hn => by
    refine ⟨?_, LookT.set h.2 fun e he => hn e (List.mem_cons_of_mem _ he)⟩
    rw [alook_aset, if_neg (fun he => hn e List.mem_cons_self he.symm)]
    exact h.1
theorem SetO.look : ∀ {os : OL} {objs : List (Int × List AV)}, LookO objs os → (os.map (·.1)).Nodup → ∀ j c, alook (SetO objs os) j = some c → (∃ e ∈ os, e.1 = j ∧ e.2.2 = c) ∨ (alook objs j = some c ∧ ∀ e ∈ os, e.1 ≠ j)
  | [], _, _, _, j, c, h => .inr ⟨h, fun _ he => by cases he⟩
  | e :: r, objs, hl, hn, j, c, h => by
    rw [List.map_cons, List.nodup_cons] at hn
    have hne : ∀ e' ∈ r, e'.1 ≠ e.1 := fun e' he' h0 => hn.1 (h0 ▸ List.mem_map_of_mem he')
    rcases SetO.look (LookO.set hl.2 hne) hn.2 j c h with ⟨e', h1, h2, h3⟩ | ⟨h1, h2⟩
    · exact .inl ⟨e', List.mem_cons_of_mem _ h1, h2, h3⟩
    · rw [alook_aset, hl.1] at h1
      split at h1
      · rename_i h0
        cases h1
        exact .inl ⟨e, List.mem_cons_self, h0, rfl⟩
      · rename_i h0
        refine .inr ⟨h1, fun e' he' => ?_⟩
        rcases List.mem_cons.1 he' with rfl | he'
        · exact h0
        · exact h2 e' he'
theorem SetT.look : ∀ {os : TL} {objs : List (Int × Tq)}, LookT objs os → (os.map (·.1)).Nodup → ∀ j c, alook (SetT objs os) j = some c → (∃ e ∈ os, e.1 = j ∧ e.2.2 = c) ∨ (alook objs j = some c ∧ ∀ e ∈ os, e.1 ≠ j)
  | [], _, _, _, j, c, h => .inr ⟨h, fun _ he => by cases he⟩
  | e :: r, objs, hl, hn, j, c, h => by
    rw [List.map_cons, List.nodup_cons] at hn
    have hne : ∀ e' ∈ r, e'.1 ≠ e.1 := fun e' he' h0 => hn.1 (h0 ▸ List.mem_map_of_mem he')
    rcases SetT.look (LookT.set hl.2 hne) hn.2 j c h with ⟨e', h1, h2, h3⟩ | ⟨h1, h2⟩
    · exact .inl ⟨e', List.mem_cons_of_mem _ h1, h2, h3⟩
    · rw [alook_aset, hl.1] at h1
      split at h1
      · rename_i h0
        cases h1
        exact .inl ⟨e, List.mem_cons_self, h0, rfl⟩
      · rename_i h0
        refine .inr ⟨h1, fun e' he' => ?_⟩
        rcases List.mem_cons.1 he' with rfl | he'
        · exact h0
        · exact h2 e' he'
theorem LookO.mem : ∀ {os : OL} {objs : List (Int × List AV)}, LookO objs os → ∀ e ∈ os, alook objs e.1 = some e.2.1
  | _ :: _, _, h, e, he => by
    rcases List.mem_cons.1 he with rfl | he
    · exact h.1
    · exact LookO.mem h.2 e he
theorem LookT.mem : ∀ {os : TL} {objs : List (Int × Tq)}, LookT objs os → ∀ e ∈ os, alook objs e.1 = some e.2.1
  | _ :: _, _, h, e, he => by
    rcases List.mem_cons.1 he with rfl | he
    · exact h.1
    · exact LookT.mem h.2 e he
theorem IdsO.mem : ∀ {os : OL} {toks : List (Int × Tq)} {next : Int}, IdsO toks next os → ∀ e ∈ os, alook toks e.1 = none ∧ e.1 < next
  | _ :: _, _, _, h, e, he => by
    rcases List.mem_cons.1 he with rfl | he
    · exact h.1
    · exact IdsO.mem h.2 e he
theorem IdsT.mem : ∀ {os : TL} {objs : List (Int × List AV)} {next : Int}, IdsT objs next os → ∀ e ∈ os, alook objs e.1 = none ∧ e.1 < next
  | _ :: _, _, _, h, e, he => by
    rcases List.mem_cons.1 he with rfl | he
    · exact h.1
    · exact IdsT.mem h.2 e he
theorem nodup_inj {α β : Type} {f : α → β} : ∀ {l : List α}, (l.map f).Nodup → ∀ {a b : α}, a ∈ l → b ∈ l → f a = f b → a = b
  | [], _, _, _, h, _, _ => by cases h
  | x :: l, hn, a, b, ha, hb, he => by
    rw [List.map_cons, List.nodup_cons] at hn
    rcases List.mem_cons.1 ha with h1 | h1
    · rcases List.mem_cons.1 hb with h2 | h2
      · rw [h1, h2]
      · subst h1; exact absurd (he ▸ List.mem_map_of_mem h2) hn.1
    · rcases List.mem_cons.1 hb with h2 | h2
      · subst h2; exact absurd (he ▸ List.mem_map_of_mem h1) hn.1
      · exact nodup_inj hn.2 h1 h2 he
theorem alook_mem {α : Type} : ∀ {l : List (Int × α)} {i : Int} {c : α}, alook l i = some c → (i, c) ∈ l
  | [], i, c, h => by simp [alook] at h
  | (k, v) :: r, i, c, h => by
    simp only [alook] at h
    split at h
    · rename_i hk; cases h; subst hk; exact List.mem_cons_self
    · exact List.mem_cons_of_mem _ (alook_mem h)
theorem mem_alook {α : Type} : ∀ {l : List (Int × α)} {i : Int} {c : α}, (i, c) ∈ l → (l.map (·.1)).Nodup → alook l i = some c
  | (k, v) :: r, i, c, h, hn => by
    rw [List.map_cons, List.nodup_cons] at hn
    simp only [alook]
    rcases List.mem_cons.1 h with h | h
    · cases h; rw [if_pos rfl]
    · rw [if_neg]
      · exact mem_alook h hn.2
      · rintro rfl; exact hn.1 (List.mem_map_of_mem (f := (·.1)) h)
/-- Proved at small numbers, it holds at all. -/
theorem ASys.mk {g : FuncId} {args args0 : List AV} {R : AV} {os zo : OL} {ts zt : TL} (k : Int) (f : Int → Int)
    (hargs : AV.renL f args0 = args) (hos : zo.map (fun e => (f e.1, AV.renL f e.2.1, AV.renL f e.2.2)) = os) (hts : zt.map (fun e => (f e.1, e.2.1, e.2.2)) = ts)
    (hk : 0 ≤ k) (hcov : ∀ i, 0 ≤ i → i < k → i ∈ sysIds zo zt) (hin : ∀ i ∈ sysIds zo zt, 0 ≤ i ∧ i < k) (hnd : (sysIds zo zt).Nodup)
    (hA : AV.idsL (inK k) args0 = true) (hC : ∀ e ∈ zo, AV.idsL (inK k) e.2.1 = true ∧ AV.idsL (inK k) e.2.2 = true) (hR : R.shut = true)
    (h : ACalls P g args0 ⟨zo.map (fun e => (e.1, e.2.1)), zt.map (fun e => (e.1, e.2.1)), k⟩ (fun rv σ1 => rv.wk = R ∧ k ≤ σ1.next ∧ (∀ e ∈ zo, alook σ1.objs e.1 = some e.2.2) ∧ ∀ e ∈ zt, alook σ1.toks e.1 = some e.2.2)) : ASys P g args R os ts := by
  intro σ hlo hlt hio hit hdis
  subst hos hts hargs
  have h1 : ACalls P g args0 ⟨zo.map (fun e => (e.1, e.2.1)), zt.map (fun e => (e.1, e.2.1)), k⟩ (fun rv σ1 => rv = R ∧ k ≤ σ1.next ∧ σ1.objs = zo.map (fun e => (e.1, e.2.2)) ∧ σ1.toks = zt.map (fun e => (e.1, e.2.2))) := by
    refine AWeakW h ?_
    rintro rv σ1 ⟨g1, g2, g3, g4⟩
    refine ⟨⟨zo.map (fun e => (e.1, e.2.2)), zt.map (fun e => (e.1, e.2.2)), σ1.next⟩, ⟨fun id c hl => ?_, fun id t hl => ?_, Int.le_refl _⟩, g1, g2, rfl, rfl⟩
    · obtain ⟨e, he, h0⟩ := List.mem_map.1 (alook_mem hl)
      cases h0
      exact ⟨_, g3 e he, .inl rfl⟩
    · obtain ⟨e, he, h0⟩ := List.mem_map.1 (alook_mem hl)
      cases h0
      exact g4 e he
  have hnd' : (sysIds zo zt).map f = sysIds (zo.map (fun e => (f e.1, AV.renL f e.2.1, AV.renL f e.2.2))) (zt.map (fun e => (f e.1, e.2.1, e.2.2))) := by
    simp only [sysIds, List.map_append, List.map_map]; rfl
  have hinj : ∀ i i', 0 ≤ i → i < k → 0 ≤ i' → i' < k → f i = f i' → i = i' := fun i i' a b c d he => nodup_inj (hnd' ▸ hdis) (hcov i a b) (hcov i' c d) he
  have hno := List.nodup_append.1 hdis
  have rho_eq : ∀ c, AV.idsL (inK k) c = true → AV.renL (rho k f σ.next) c = AV.renL f c := fun c hc => AV.renL_congr (fun i hi => by unfold rho; rw [if_pos (inK_iff.1 hi).2]) c hc
  have fo : ∀ e ∈ zo, alook σ.objs (f e.1) = some (AV.renL f e.2.1) ∧ alook σ.toks (f e.1) = none ∧ f e.1 < σ.next := fun e he => by
    have hm := List.mem_map_of_mem (f := fun e : Int × List AV × List AV => (f e.1, AV.renL f e.2.1, AV.renL f e.2.2)) he
    exact ⟨hlo.mem _ hm, hio.mem _ hm⟩
  have ft : ∀ e ∈ zt, alook σ.toks (f e.1) = some e.2.1 ∧ alook σ.objs (f e.1) = none ∧ f e.1 < σ.next := fun e he => by
    have hm := List.mem_map_of_mem (f := fun e : Int × Tq × Tq => (f e.1, e.2.1, e.2.2)) he
    exact ⟨hlt.mem _ hm, hit.mem _ hm⟩
  have hno0 := List.nodup_append.1 hnd
  have hflt : ∀ i, 0 ≤ i → i < k → f i < σ.next := fun i a b => by
    rcases List.mem_append.1 (hcov i a b) with hm | hm
    · obtain ⟨e, he, rfl⟩ := List.mem_map.1 hm; exact (fo e he).2.2
    · obtain ⟨e, he, rfl⟩ := List.mem_map.1 hm; exact (ft e he).2.2
  have := ACalls.move (σ := σ) (K := fun rv σ' => rv = R ∧ σ' = ⟨SetO σ.objs (zo.map (fun e => (f e.1, AV.renL f e.2.1, AV.renL f e.2.2))), SetT σ.toks (zt.map (fun e => (f e.1, e.2.1, e.2.2))), σ.next⟩) h1 k hk rfl f hflt hinj (fun i c hl => ?_) (fun i t hl => ?_) hA ?_
  · rwa [rho_eq args0 hA] at this
  · obtain ⟨e, he, h0⟩ := List.mem_map.1 (alook_mem hl)
    cases h0
    exact ⟨hin _ (List.mem_append_left _ (List.mem_map_of_mem he)), (hC e he).1, by rw [rho_eq _ (hC e he).1]; exact (fo e he).1⟩
  · obtain ⟨e, he, h0⟩ := List.mem_map.1 (alook_mem hl)
    cases h0
    exact ⟨hin _ (List.mem_append_right _ (List.mem_map_of_mem he)), (ft e he).1⟩
  · rintro rv σ1 ⟨rfl, g1, g2, g3⟩
    refine ⟨k, AV.ids_shut _ _ hR, Int.le_refl _, ⟨SetO σ.objs (zo.map (fun e => (f e.1, AV.renL f e.2.1, AV.renL f e.2.2))), SetT σ.toks (zt.map (fun e => (f e.1, e.2.1, e.2.2))), σ.next⟩, ⟨fun j c hj => ?_, fun j t hj => ?_, by show k - k + σ.next ≤ σ.next; omega⟩, AV.ren_shut _ _ hR, rfl⟩
    · rcases SetO.look hlo hno.1 j c hj with ⟨e', he', rfl, rfl⟩ | ⟨h2, h3⟩
      · obtain ⟨e, he, rfl⟩ := List.mem_map.1 he'
        have hb := hin _ (List.mem_append_left _ (List.mem_map_of_mem he))
        refine .inl ⟨e.1, e.2.2, hb.1, hb.2, by unfold rho; rw [if_pos hb.2], ?_, (hC e he).2, by rw [rho_eq _ (hC e he).2]⟩
        rw [g2]
        refine mem_alook (List.mem_map.2 ⟨e, he, rfl⟩) ?_
        rw [List.map_map]; exact hno0.1
      · refine .inr ⟨h2, fun i a b he => ?_⟩
        rcases List.mem_append.1 (hcov i a b) with hm | hm
        · obtain ⟨e, he', rfl⟩ := List.mem_map.1 hm
          exact h3 _ (List.mem_map_of_mem he') he
        · obtain ⟨e, he', rfl⟩ := List.mem_map.1 hm
          have := (ft e he').2.1
          rw [he, h2] at this; cases this
    · rcases SetT.look hlt hno.2.1 j t hj with ⟨e', he', rfl, rfl⟩ | ⟨h2, h3⟩
      · obtain ⟨e, he, rfl⟩ := List.mem_map.1 he'
        have hb := hin _ (List.mem_append_right _ (List.mem_map_of_mem he))
        refine .inl ⟨e.1, hb.1, hb.2, by unfold rho; rw [if_pos hb.2], ?_⟩
        rw [g3]
        refine mem_alook (List.mem_map.2 ⟨e, he, rfl⟩) ?_
        rw [List.map_map]; exact hno0.2.1
      · refine .inr ⟨h2, fun i a b he => ?_⟩
        rcases List.mem_append.1 (hcov i a b) with hm | hm
        · obtain ⟨e, he', rfl⟩ := List.mem_map.1 hm
          have := (fo e he').2.1
          rw [he, h2] at this; cases this
        · obtain ⟨e, he', rfl⟩ := List.mem_map.1 hm
          exact h3 _ (List.mem_map_of_mem he') he
/-! ### In a walk -/
theorem R_call_sys {f : Operand} {g : FuncId} {first cap : List AV} {as_ : List Operand} {ats : Array TypeId} {args args' : List AV} {R : AV} {os : OL} {ts : TL} {objs' : List (Int × List AV)} {toks' : List (Int × Tq)} (hf : aev sl f = .fn g first cap) (ha : argsF sl first as_ cap = some args) (hw : AV.wkL args = args') (h : ASys P g args' R os ts)
    (hlo : LookO objs os) (hlt : LookT toks ts) (hio : IdsO toks next os) (hit : IdsT objs next ts) (hdis : (sysIds os ts).Nodup)
    (hc : ∀ (vs : Array Value) (w : World), (callFunc g vs).run P w = .ok (.enter g vs) w) (hob : setOF objs os = some objs') (hot : setTF toks ts = some toks') (hs : aput sl dst R = sl') (hk : AOPS P ops r sl' ⟨objs', toks', next⟩ Q) : AOPS P ops (⟨dst, .call { callee := .value f, args := as_.toArray, argTypes := ats }, ty, pos, after, none⟩ :: r) sl ⟨objs, toks, next⟩ Q :=
  S_call hf (argsF_ok ha) ((h ⟨objs, toks, next⟩ hlo hlt hio hit hdis).wk hw) hc hs (by rw [setOF_ok hob, setTF_ok hot]; exact hk)
theorem ASys.dis {os : OL} {ts : TL} (h : ((os.map (·.1) ++ ts.map (·.1)).Nodup : Prop)) : (sysIds os ts).Nodup := h
/-! ### A slice with no room, in an object -/
variable {base : Nat} {Fi : Int → Prop} {M : MM} {w : World}
theorem adoptOF_ok {a : Act} (hr : Rel base Fi M a w sl ⟨objs, toks, next⟩) {id : Int} {j sz n : Nat} {cells cs : List AV} (ho : alook objs id = some cells) (hj : cells[j]? = some (.sl .full cs n)) (hl : cs.length = n * sz) : ∃ M', Rel base Fi M' a w sl ⟨aset objs id (cells.set j (.sl (.tok next n sz) cs n)), (next, .top n) :: toks, next + 1⟩ ∧ Stp base Fi M w M' w := by
  have S := hr.2.2
  have hT := (Grew.refl w).tok S (id := next) (T := ⟨sz, n, none⟩) (.inl rfl) (fun b e' ce h => by cases h)
  have S' : St base Fi (M.tok next ⟨sz, n, none⟩) w ⟨objs, (next, .top n) :: toks, next + 1⟩ := by
    refine (Grew.refl w).tok_st S (.inl rfl) (fun b e' ce h => by cases h) (fun i top h => ?_) (by show next ≤ next + 1; omega) (by show next < next + 1; omega)
    simp only [alook] at h
    split at h
    · rename_i he; cases h; exact .inl ⟨he.symm, rfl⟩
    · rename_i he; exact .inr ⟨Ne.symm he, h⟩
  refine ⟨M.tok next ⟨sz, n, none⟩, ⟨hr.1, RepsL.stp hT _ _ hr.2.1, S'.base_le, fun i c hl => ?_, S'.tks, S'.mps, S'.inj, S'.dis, S'.tinj, S'.obsz, S'.tksz, S'.fresh⟩, hT⟩
  simp only [alook_aset] at hl
  split at hl
  · rename_i he
    subst he
    rw [ho] at hl
    simp only [Option.map_some, Option.some.injEq] at hl
    subst hl
    obtain ⟨h1, b, vs, e, h2, h3, h4, h5⟩ := S'.obs id cells ho
    refine ⟨h1, b, vs, e, h2, h3, h4, ?_⟩
    obtain ⟨v, hv, hrv⟩ := h5.get j _ hj
    have h8 : Reps (M.tok next ⟨sz, n, none⟩) w (.sl (.tok next n sz) cs n) v := by
      unfold Reps at hrv ⊢
      obtain ⟨A, c, us, g1, g2, g3, g4, g5, g6, g7, g8⟩ := hrv
      exact ⟨A, c, us, g1, g2, g3, g4, g5, g6, g7, ⟨sz, n, none⟩, by simp [MM.tok], rfl, Nat.le_refl _, ‹cs.length = n * sz›, fun _ => g8⟩
    have h9 := h5.set j h8
    have h10 : vs.toList.set j v = vs.toList := by
      apply List.ext_getElem?
      intro i
      rw [List.getElem?_set]
      split
      · rename_i hi; subst hi; rw [hv]; split
        · rfl
        · rename_i hlt; rw [List.getElem?_eq_none (by omega)] at hv; cases hv
      · rfl
    rw [h10] at h9
    exact h9
  · exact S'.obs i c hl
/-- A slice with no room in an object is a buffer. -/
theorem AWP_adoptOF {c : Code} (id : Int) (j sz : Nat) {n : Nat} {cells cells' cs : List AV} {objs' : List (Int × List AV)} (ho : alook objs id = some cells) (hj : cells[j]? = some (.sl .full cs n)) (hl : cs.length = n * sz) (hc : setF cells j (.sl (.tok next n sz) cs n) = some cells') (hob : asetF objs id cells' = some objs') (h : AWP P c sl ⟨objs', (next, .top n) :: toks, next + 1⟩ Q) : AWP P c sl ⟨objs, toks, next⟩ Q := by
  intro base Fi M0 w0 M a w hst hr
  obtain ⟨M', h1, h2⟩ := adoptOF_ok (sz := sz) hr ho hj hl
  rw [setF_ok hc, asetF_ok hob] at h1
  exact h base Fi M0 w0 M' a w (hst.trans h2) h1
theorem AOPS_adoptO {ops : Array Oper} {lo : List Oper} (id : Int) (j sz : Nat) {cells cells' : List AV} {objs' : List (Int × List AV)} {nx : Int} (ho : alook objs id = some cells) (hj : cells[j]? = some .nils) (hc : setF cells j (.sl (.tok next 0 sz) [] 0) = some cells') (hob : asetF objs id cells' = some objs') (hn : next + 1 = nx) (h : AOPS P ops lo sl ⟨objs', (next, .top 0) :: toks, nx⟩ Q) : AOPS P ops lo sl ⟨objs, toks, next⟩ Q := by
  subst hn
  intro base Fi M0 w0 M a w hst hr
  obtain ⟨M', h1, h2⟩ := adoptO_ok (sz := sz) hr ho hj
  rw [setF_ok hc, asetF_ok hob] at h1
  exact h base Fi M0 w0 M' a w (hst.trans h2) h1
theorem AOPS_adoptOF {ops : Array Oper} {lo : List Oper} (id : Int) (j sz : Nat) {n : Nat} {cells cells' cs : List AV} {objs' : List (Int × List AV)} {nx : Int} (ho : alook objs id = some cells) (hj : cells[j]? = some (.sl .full cs n)) (hl : cs.length = n * sz) (hc : setF cells j (.sl (.tok next n sz) cs n) = some cells') (hob : asetF objs id cells' = some objs') (hn : next + 1 = nx) (h : AOPS P ops lo sl ⟨objs', (next, .top n) :: toks, nx⟩ Q) : AOPS P ops lo sl ⟨objs, toks, next⟩ Q := by
  subst hn
  intro base Fi M0 w0 M a w hst hr
  obtain ⟨M', h1, h2⟩ := adoptOF_ok (sz := sz) hr ho hj hl
  rw [setF_ok hc, asetF_ok hob] at h1
  exact h base Fi M0 w0 M' a w (hst.trans h2) h1
theorem AWP_adO {c : Code} (id : Int) (j sz : Nat) {nx : Int} {cells cells' : List AV} {objs' : List (Int × List AV)} (ho : alook objs id = some cells) (hj : cells[j]? = some .nils) (hc : setF cells j (.sl (.tok next 0 sz) [] 0) = some cells') (hob : asetF objs id cells' = some objs') (hn : next + 1 = nx) (h : AWP P c sl ⟨objs', (next, .top 0) :: toks, nx⟩ Q) : AWP P c sl ⟨objs, toks, next⟩ Q := by
  subst hn
  exact AWP_adoptO id j sz ho hj hc hob h
theorem AWP_adOF {c : Code} (id : Int) (j sz : Nat) {nx : Int} {n : Nat} {cells cells' cs : List AV} {objs' : List (Int × List AV)} (ho : alook objs id = some cells) (hj : cells[j]? = some (.sl .full cs n)) (hl : cs.length = n * sz) (hc : setF cells j (.sl (.tok next n sz) cs n) = some cells') (hob : asetF objs id cells' = some objs') (hn : next + 1 = nx) (h : AWP P c sl ⟨objs', (next, .top n) :: toks, nx⟩ Q) : AWP P c sl ⟨objs, toks, next⟩ Q := by
  subst hn
  exact AWP_adoptOF id j sz ho hj hl hc hob h
end Go.Proofs.Ytnjkklkjlloedaa
