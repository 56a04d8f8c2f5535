/- The abstract machine: a scope in which the run jumps back. -/
import Derived.Test.YtnjkklkjlloedaaRun
namespace Go.Proofs.Ytnjkklkjlloedaa
open Go.RowKit
set_option linter.unusedVariables false
set_option linter.unusedSimpArgs false
variable {P : Program} {sl : List AV} {σ : ASt} {Q : Exit → List AV → ASt → Prop}
theorem least_of {p : Nat → Prop} (h : ∃ n, p n) : ∃ m, p m ∧ ∀ k, p k → m ≤ k := by
  obtain ⟨n, hn⟩ := h
  induction n using Nat.strongRecOn with
  | _ n ih =>
    by_cases hs : ∃ k, k < n ∧ p k
    · obtain ⟨k, hk, hp⟩ := hs
      exact ih k hk hp
    · exact ⟨n, hn, fun k hk => Nat.le_of_not_lt fun hlt => hs ⟨k, hlt, hk⟩⟩
/-- What holds at a jump to label l; else Q. -/
def AJumpS (l : Nat) {N : Type} (f : N → List AV) (st : N → ASt) (inv : N → Prop) (μ : N → Nat) (m : Nat) (Q : Exit → List AV → ASt → Prop) : Exit → List AV → ASt → Prop
  | .goto l', sl, σ => l' = l ∧ ∃ n, f n = sl ∧ ASub (st n) σ ∧ inv n ∧ μ n < m
  | e, sl, σ => Q e sl σ
section
variable {l m : Nat} {N : Type} {f : N → List AV} {st : N → ASt} {inv : N → Prop} {μ : N → Nat}
theorem AJumpS_normal (h : Q .normal sl σ) : AJumpS l f st inv μ m Q .normal sl σ := h
theorem AJumpS_ret (h : Q .ret sl σ) : AJumpS l f st inv μ m Q .ret sl σ := h
theorem AJumpS_exit {i : Nat} (h : Q (.exit i) sl σ) : AJumpS l f st inv μ m Q (.exit i) sl σ := h
theorem AJumpS_goto (n : N) (h1 : f n = sl) (h2 : ASub (st n) σ) (h3 : inv n) (h4 : μ n < m) : AJumpS l f st inv μ m Q (.goto l) sl σ := ⟨rfl, n, h1, h2, h3, h4⟩
end
theorem AWP_scopeL {c rest : Code} (l : Nat) (hf : findLabel c l = some rest) {N : Type} (f : N → List AV) (st : N → ASt) (inv : N → Prop) (μ : N → Nat) (m : Nat)
    (h : AWP P c sl σ (AJumpS l f st inv μ m Q)) (round : ∀ n, inv n → AWP P rest (f n) (st n) (AJumpS l f st inv μ (μ n) Q)) : AWP P (.scope c) sl σ Q := by
  intro base Fi M0 w0 M a w hst hr
  let J : Nat → Act → World → Prop := fun k a w => ∃ n σ1 M, inv n ∧ μ n = k ∧ ASub (st n) σ1 ∧ Rel base Fi M a w (f n) σ1 ∧ Stp base Fi M0 w0 M w
  obtain ⟨v, hv⟩ : ∃ v : Act → World → Nat, ∀ a w, (∃ k, J k a w) → J (v a w) a w ∧ ∀ k, J k a w → v a w ≤ k := by
    classical
    refine ⟨fun a w => if h : ∃ k, J k a w then Classical.choose (least_of h) else 0, fun a w h => ?_⟩
    simp only [dif_pos h]
    exact Classical.choose_spec (least_of h)
  have hv1 : ∀ a w, (∃ k, J k a w) → J (v a w) a w := fun a w h => (hv a w h).1
  have hv2 : ∀ a w k, J k a w → v a w ≤ k := fun a w k hk => (hv a w ⟨k, hk⟩).2 k hk
  refine wp_scope_jumps l (fun a w => ∃ k, J k a w) v hf (Code.wp_mono ?_ (h base Fi M0 w0 M a w hst hr)) (fun a1 w1 hJ => ?_)
  · rintro e a' w' ⟨sl', σ', M', q, hr', hs'⟩
    cases e with
    | goto l' =>
      obtain ⟨h1, n, h2, h3, h4, _⟩ := q
      subst h2
      exact ⟨h1, _, n, σ', M', h4, rfl, h3, hr', hs'⟩
    | _ => exact ⟨sl', σ', M', q, hr', hs'⟩
  · obtain ⟨n, σ1, M1, k1, k2, k3, k4, k5⟩ := hv1 _ _ hJ
    refine Code.wp_mono ?_ (round n k1 base Fi M0 w0 M1 a1 w1 k5 ⟨k4.1, k4.2.1, k4.2.2.sub k3⟩)
    rintro e a' w' ⟨sl', σ', M', q, hr', hs'⟩
    cases e with
    | goto l' =>
      obtain ⟨h1, n', h2, h3, h4, h5⟩ := q
      subst h2
      have hj : J (μ n') a' w' := ⟨n', σ', M', h4, rfl, h3, hr', hs'⟩
      refine ⟨h1, ⟨_, hj⟩, ?_⟩
      have := hv2 _ _ _ hj
      omega
    | _ => exact ⟨sl', σ', M', q, hr', hs'⟩
theorem set_same {α : Type} {l : List α} {t : Nat} {u : α} (h : l[t]? = some u) : l.set t u = l := by
  apply List.ext_getElem?
  intro i
  rw [List.getElem?_set]
  split
  · rename_i h1
    subst h1
    have := (List.getElem?_eq_some_iff.1 h).1
    rw [if_pos this, h]
  · rfl
/-- A slot's value may be seen without its buffer. -/
theorem AWP_wkV {c : Code} {sl' : List AV} (t : Nat) {x y : AV} (ht : sl[t]? = some x) (hw : x.wk = y) (hs : setF sl t y = some sl') (h : AWP P c sl' σ Q) : AWP P c sl σ Q := by
  intro base Fi M0 w0 M a w hst hr
  refine h base Fi M0 w0 M a w hst ⟨hr.1, ?_, hr.2.2⟩
  obtain ⟨u, h1, h2⟩ := hr.2.1.get t _ ht
  subst hw
  have h3 := hr.2.1.set t (Reps.wk x u h2)
  rwa [set_same h1, setF_ok hs] at h3
/-- A walk halts here. -/
def AHold (K : Exit → List AV → ASt → Prop) : Exit → List AV → ASt → Prop := K
theorem AHold.go {K : Exit → List AV → ASt → Prop} {e : Exit} (h : K e sl σ) : AHold K e sl σ := h
theorem AWP_seqH {c1 c2 : Code} (h : AWP P c1 sl σ (AHold (AThen P c2 Q))) : AWP P (c1.seq c2) sl σ Q := AWP_seq h
end Go.Proofs.Ytnjkklkjlloedaa
