/- docs: rising lists of names and values, in plain Lean. -/
import Derived.Test.YtnjkklkjlloedaaKit
namespace Go.Proofs.Ytnjkklkjlloedaa
set_option linter.unusedVariables false
set_option linter.unusedSimpArgs false
abbrev Nm := List UInt8
abbrev Dm := List (Nm × Nm)
/-- All names rise. -/
def DmOk (D : Dm) : Prop := D.Pairwise fun a b => a.1 < b.1
def dput : Dm → Nm → Nm → Dm
  | [], k, v => [(k, v)]
  | e :: r, k, v => if k < e.1 then (k, v) :: e :: r else if e.1 = k then (k, v) :: r else e :: dput r k v
def ddel (D : Dm) (k : Nm) : Dm := D.filter fun e => decide (e.1 ≠ k)
def dget : Dm → Nm → Option Nm
  | [], _ => none
  | e :: r, k => if e.1 = k then some e.2 else dget r k
theorem nm_lt {a b : Nm} (h1 : ¬ a < b) (h2 : b ≠ a) : b < a := by
  by_cases h : b < a
  · exact h
  · exact absurd (List.le_antisymm (List.not_lt.1 h1) (List.not_lt.1 h)) h2
theorem nm_irr (a : Nm) : ¬ a < a := List.lt_irrefl a
theorem nm_trans {a b c : Nm} (h1 : a < b) (h2 : b < c) : a < c := List.lt_trans h1 h2
theorem nm_asymm {a b : Nm} (h1 : a < b) : ¬ b < a := fun h => nm_irr a (nm_trans h1 h)
theorem DmOk.nil : DmOk [] := List.Pairwise.nil
theorem DmOk.tail {e : Nm × Nm} {r : Dm} (h : DmOk (e :: r)) : DmOk r := (List.pairwise_cons.1 h).2
theorem DmOk.head {e : Nm × Nm} {r : Dm} (h : DmOk (e :: r)) : ∀ x ∈ r, e.1 < x.1 := (List.pairwise_cons.1 h).1
theorem dput_mem : ∀ {D : Dm} {k v : Nm} {x : Nm × Nm}, x ∈ dput D k v → x = (k, v) ∨ x ∈ D
  | [], k, v, x, h => .inl (List.mem_singleton.1 h)
  | e :: r, k, v, x, h => by
    simp only [dput] at h
    split at h
    · exact (List.mem_cons.1 h)
    · split at h
      · exact (List.mem_cons.1 h).imp id (List.mem_cons_of_mem _)
      · rcases List.mem_cons.1 h with h | h
        · exact .inr (h ▸ List.mem_cons_self ..)
        · exact (dput_mem h).imp id (List.mem_cons_of_mem _)
theorem DmOk.put : ∀ {D : Dm} (h : DmOk D) (k v : Nm), DmOk (dput D k v)
  | [], _, k, v => List.pairwise_singleton _ _
  | e :: r, h, k, v => by
    simp only [dput]
    split
    · rename_i h1
      refine List.pairwise_cons.2 ⟨fun x hx => ?_, h⟩
      rcases List.mem_cons.1 hx with rfl | hx
      · exact h1
      · exact nm_trans h1 (h.head x hx)
    · rename_i h1
      split
      · rename_i h2
        refine List.pairwise_cons.2 ⟨fun x hx => ?_, h.tail⟩
        show k < x.1
        rw [← h2]; exact h.head x hx
      · rename_i h2
        refine List.pairwise_cons.2 ⟨fun x hx => ?_, DmOk.put h.tail k v⟩
        rcases dput_mem hx with rfl | hx
        · exact nm_lt h1 h2
        · exact h.head x hx
theorem DmOk.del {D : Dm} (h : DmOk D) (k : Nm) : DmOk (ddel D k) := List.Pairwise.filter _ h
theorem DmOk.nodup {D : Dm} (h : DmOk D) : (D.map Prod.fst).Nodup := by
  rw [List.Nodup, List.pairwise_map]
  refine List.Pairwise.imp ?_ h
  intro a b hab he
  rw [he] at hab
  exact nm_irr _ hab
/-- A name is there, or not: what a put makes, and a drop, up to order. -/
theorem dm_cases : ∀ {D : Dm} (h : DmOk D) (k : Nm), ((∀ e ∈ D, e.1 ≠ k) ∧ dget D k = none ∧ ddel D k = D ∧ ∀ v, (D ++ [(k, v)]).Perm (dput D k v)) ∨ ∃ l1 w l2, D = l1 ++ (k, w) :: l2 ∧ dget D k = some w ∧ ddel D k = l1 ++ l2 ∧ ∀ v, dput D k v = l1 ++ (k, v) :: l2
  | [], _, k => .inl ⟨(fun e he => by cases he), rfl, rfl, fun v => List.Perm.refl _⟩
  | e :: r, h, k => by
    by_cases hk : e.1 = k
    · refine .inr ⟨[], e.2, r, ?_, by simp [dget, hk], ?_, fun v => ?_⟩
      · rw [List.nil_append, ← hk]
      · rw [ddel, List.filter_cons, if_neg (by simp [hk]), List.nil_append, List.filter_eq_self]
        intro x hx
        have := h.head x hx
        simp only [decide_eq_true_eq]
        rintro rfl
        rw [hk] at this
        exact nm_irr _ this
      · rw [dput, if_neg (by rw [hk]; exact nm_irr k), if_pos hk, List.nil_append]
    · have hd : ddel (e :: r) k = e :: ddel r k := by rw [ddel, List.filter_cons, if_pos (by simpa using hk)]; rfl
      have hg : dget (e :: r) k = dget r k := by rw [dget, if_neg hk]
      rcases dm_cases h.tail k with ⟨h1, h2, h3, h4⟩ | ⟨l1, w, l2, h1, h2, h3, h4⟩
      · refine .inl ⟨fun x hx => ?_, by rw [hg, h2], by rw [hd, h3], fun v => ?_⟩
        · rcases List.mem_cons.1 hx with rfl | hx
          · exact hk
          · exact h1 x hx
        · rw [dput]
          split
          · exact List.perm_append_singleton _ _
          · rw [List.cons_append]
            exact (h4 v).cons e
      · refine .inr ⟨e :: l1, w, l2, by rw [h1, List.cons_append], by rw [hg, h2], by rw [hd, h3, List.cons_append], fun v => ?_⟩
        rw [dput, if_neg, if_neg hk, h4, List.cons_append]
        have : e.1 < k := h.head (k, w) (by rw [h1]; simp)
        exact nm_asymm this
theorem dget_mem {D : Dm} (h : DmOk D) {e : Nm × Nm} (he : e ∈ D) : dget D e.1 = some e.2 := by
  rcases dm_cases h e.1 with ⟨h1, _⟩ | ⟨l1, w, l2, h1, h2, _⟩
  · exact absurd rfl (h1 e he)
  · rw [h2]
    have hw : (e.1, w) ∈ D := by rw [h1]; simp
    have hp := h.nodup
    obtain ⟨i, hi⟩ := List.getElem?_of_mem he
    obtain ⟨j, hj⟩ := List.getElem?_of_mem hw
    have g1 : (D.map Prod.fst)[i]? = some e.1 := by rw [List.getElem?_map, hi]; rfl
    have g2 : (D.map Prod.fst)[j]? = some e.1 := by rw [List.getElem?_map, hj]; rfl
    obtain ⟨l1, m1⟩ := List.getElem?_eq_some_iff.1 g1
    obtain ⟨l2, m2⟩ := List.getElem?_eq_some_iff.1 g2
    have hij : i = j := by
      rcases Nat.lt_trichotomy i j with h | h | h
      · exact absurd (m1.trans m2.symm) (List.pairwise_iff_getElem.1 hp i j l1 l2 h)
      · exact h
      · exact absurd (m2.trans m1.symm) (List.pairwise_iff_getElem.1 hp j i l2 l1 h)
    subst hij
    rw [hi] at hj
    exact congrArg some (congrArg Prod.snd (Option.some.inj hj)).symm
theorem dput_len (D : Dm) (k v : Nm) : (dput D k v).length ≤ D.length + 1 := by
  induction D with
  | nil => simp [dput]
  | cons e r ih =>
    simp only [dput]
    split
    · simp
    · split
      · simp
      · simp only [List.length_cons]; omega
theorem ddel_len (D : Dm) (k : Nm) : (ddel D k).length ≤ D.length := List.length_filter_le _ _
/-- Names sorted are the names of a rising list. -/
theorem sort_names {D : Dm} (h : DmOk D) {ss : List Nm} (hp : ss.Perm (D.map Prod.fst)) : ss.mergeSort (fun x y => decide (x ≤ y)) = D.map Prod.fst := by
  have tr : ∀ a b c : Nm, decide (a ≤ b) = true → decide (b ≤ c) = true → decide (a ≤ c) = true := fun a b c h1 h2 => by simp only [decide_eq_true_eq] at *; exact List.le_trans h1 h2
  have to : ∀ a b : Nm, (decide (a ≤ b) || decide (b ≤ a)) = true := fun a b => by simp only [Bool.or_eq_true, decide_eq_true_eq]; exact List.le_total a b
  refine List.Perm.eq_of_pairwise (le := fun a b => decide (a ≤ b) = true) (fun a b _ _ h1 h2 => ?_) (List.pairwise_mergeSort tr to ss) ?_ ((List.mergeSort_perm ss _).trans hp)
  · simp only [decide_eq_true_eq] at h1 h2
    exact List.le_antisymm h1 h2
  · rw [List.pairwise_map]
    refine List.Pairwise.imp (fun {a b} h => ?_) h
    simp only [decide_eq_true_eq]
    exact List.not_lt.1 (nm_asymm h)
/-- A put into a beginning. -/
theorem dput_app_hi : ∀ {A B : Dm} {k v : Nm}, (∃ a ∈ A, ¬ a.1 < k) → DmOk (A ++ B) → (∀ b ∈ B, b.1 ≠ k) → dput (A ++ B) k v = dput A k v ++ B
  | [], B, k, v, h, _, _ => by obtain ⟨a, ha, _⟩ := h; cases ha
  | e :: r, B, k, v, h, hs, hB => by
    simp only [List.cons_append, dput]
    split
    · simp
    · rename_i h1
      split
      · simp
      · rename_i h2
        rw [List.cons_append, dput_app_hi ?_ (DmOk.tail hs) hB]
        obtain ⟨a, ha, hk⟩ := h
        rcases List.mem_cons.1 ha with rfl | ha
        · exact absurd (nm_lt h1 h2) hk
        · exact ⟨a, ha, hk⟩
theorem dput_app_lo : ∀ {A : Dm} {B : Dm} {k v : Nm}, (∀ a ∈ A, a.1 < k) → dput (A ++ B) k v = A ++ dput B k v
  | [], B, k, v, h => rfl
  | e :: r, B, k, v, h => by
    have he := h e (List.mem_cons_self ..)
    simp only [List.cons_append, dput]
    rw [if_neg (nm_asymm he), if_neg (fun h => by rw [h] at he; exact nm_irr _ he), dput_app_lo fun a ha => h a (List.mem_cons_of_mem _ ha)]
theorem ddel_snoc {A : Dm} {d : Nm × Nm} {k : Nm} : ddel (A ++ [d]) k = if d.1 = k then ddel A k else ddel A k ++ [d] := by
  rw [ddel, List.filter_append]
  by_cases h : d.1 = k
  · rw [if_pos h]; simp [ddel, h]
  · rw [if_neg h]; simp [ddel, h]
theorem dget_none {D : Dm} (h : DmOk D) {k : Nm} : dget D k = none ↔ ∀ e ∈ D, e.1 ≠ k := by
  rcases dm_cases h k with ⟨h1, h2, _⟩ | ⟨l1, w, l2, h1, h2, _⟩
  · exact ⟨fun _ => h1, fun _ => h2⟩
  · exact ⟨(fun h => by rw [h2] at h; cases h), fun h => absurd rfl (h (k, w) (by rw [h1]; simp))⟩
theorem dget_put : ∀ (D : Dm) (k v q : Nm), dget (dput D k v) q = if q = k then some v else dget D q
  | [], k, v, q => by
    simp only [dput, dget]
    by_cases h : k = q
    · rw [if_pos h, if_pos h.symm]
    · rw [if_neg h, if_neg (Ne.symm h)]
  | e :: r, k, v, q => by
    have ih := dget_put r k v q
    simp only [dput]
    split
    · simp only [dget]
      by_cases h : k = q
      · rw [if_pos h, if_pos h.symm]
      · rw [if_neg h, if_neg (Ne.symm h)]
    · split
      · rename_i h2
        simp only [dget]
        by_cases h : k = q
        · rw [if_pos h, if_pos h.symm]
        · rw [if_neg h, if_neg (Ne.symm h), h2, if_neg h]
      · rename_i h2
        simp only [dget]
        by_cases h : e.1 = q
        · rw [if_pos h, if_pos h, if_neg (fun g => h2 (by rw [h, g]))]
        · rw [if_neg h, if_neg h, ih]
theorem dget_del : ∀ (D : Dm) (k q : Nm), dget (ddel D k) q = if q = k then none else dget D q
  | [], k, q => by simp [ddel, dget]
  | e :: r, k, q => by
    have ih := dget_del r k q
    by_cases h : e.1 = k
    · have h1 : ddel (e :: r) k = ddel r k := by rw [ddel, List.filter_cons, if_neg (by simp [h])]; rfl
      rw [h1, ih, dget]
      by_cases hq : q = k
      · rw [if_pos hq, if_pos hq]
      · rw [if_neg hq, if_neg hq, if_neg (fun g => hq (by rw [← g, h]))]
    · have h1 : ddel (e :: r) k = e :: ddel r k := by rw [ddel, List.filter_cons, if_pos (by simpa using h)]; rfl
      rw [h1, dget, ih, dget]
      by_cases hq : e.1 = q
      · rw [if_pos hq, if_pos hq, if_neg (fun g => h (by rw [hq, g]))]
      · rw [if_neg hq, if_neg hq]
/-- Puts of names, each with its value. -/
def putAll (f : Nm → Nm) : Dm → List Nm → Dm
  | D, [] => D
  | D, n :: r => putAll f (dput D n (f n)) r
theorem putAll_snoc (f : Nm → Nm) : ∀ (r : List Nm) (D : Dm) (n : Nm), putAll f D (r ++ [n]) = dput (putAll f D r) n (f n)
  | [], D, n => rfl
  | x :: r, D, n => by simp only [List.cons_append, putAll]; exact putAll_snoc f r _ n
theorem putAll_ok (f : Nm → Nm) : ∀ (r : List Nm) {D : Dm}, DmOk D → DmOk (putAll f D r)
  | [], D, h => h
  | x :: r, D, h => putAll_ok f r (h.put _ _)
theorem putAll_get (f : Nm → Nm) (q : Nm) : ∀ (r : List Nm) (D : Dm), dget (putAll f D r) q = if q ∈ r then some (f q) else dget D q
  | [], D => by simp [putAll]
  | x :: r, D => by
    rw [putAll, putAll_get f q r, dget_put]
    by_cases h1 : q ∈ r
    · rw [if_pos h1, if_pos (List.mem_cons_of_mem _ h1)]
    · rw [if_neg h1]
      by_cases h2 : q = x
      · rw [if_pos h2, if_pos (by rw [h2]; exact List.mem_cons_self ..), h2]
      · rw [if_neg h2, if_neg (fun h => (List.mem_cons.1 h).elim h2 h1)]
theorem dget_in {D : Dm} (h : DmOk D) {k v : Nm} (hg : dget D k = some v) : (k, v) ∈ D := by
  rcases dm_cases h k with ⟨_, h2, _⟩ | ⟨l1, w, l2, h1, h2, _⟩
  · rw [h2] at hg; cases hg
  · rw [h2] at hg; cases hg
    rw [h1]; simp
theorem dm_sub : ∀ {A B : Dm}, DmOk A → DmOk B → (∀ e ∈ A, e ∈ B) → A.length ≤ B.length
  | [], _, _, _, _ => Nat.zero_le _
  | e :: r, [], _, _, h => absurd (h e (List.mem_cons_self ..)) (List.not_mem_nil)
  | e :: r, f :: s, hA, hB, h => by
    by_cases he : e = f
    · subst he
      have := dm_sub hA.tail hB.tail fun x hx => by
        rcases List.mem_cons.1 (h x (List.mem_cons_of_mem _ hx)) with rfl | h1
        · exact absurd (hA.head x hx) (nm_irr _)
        · exact h1
      simp only [List.length_cons]; omega
    · have hes : e ∈ s := (List.mem_cons.1 (h e (List.mem_cons_self ..))).resolve_left he
      have := dm_sub hA hB.tail fun x hx => by
        rcases List.mem_cons.1 (h x hx) with rfl | h1
        · rcases List.mem_cons.1 hx with rfl | h2
          · exact absurd rfl he
          · exact absurd (nm_trans (hA.head x h2) (hB.head e hes)) (nm_irr _)
        · exact h1
      simp only [List.length_cons] at this ⊢; omega
theorem dm_eq : ∀ {A B : Dm}, DmOk A → DmOk B → (∀ e ∈ A, e ∈ B) → A.length = B.length → A = B
  | [], B, _, _, _, hl => (List.eq_nil_of_length_eq_zero hl.symm).symm
  | e :: r, [], _, _, h, _ => absurd (h e (List.mem_cons_self ..)) (List.not_mem_nil)
  | e :: r, f :: s, hA, hB, h, hl => by
    by_cases he : e = f
    · subst he
      rw [dm_eq hA.tail hB.tail (fun x hx => by
        rcases List.mem_cons.1 (h x (List.mem_cons_of_mem _ hx)) with rfl | h1
        · exact absurd (hA.head x hx) (nm_irr _)
        · exact h1) (by simpa using hl)]
    · have hes : e ∈ s := (List.mem_cons.1 (h e (List.mem_cons_self ..))).resolve_left he
      have := dm_sub hA hB.tail fun x hx => by
        rcases List.mem_cons.1 (h x hx) with rfl | h1
        · rcases List.mem_cons.1 hx with rfl | h2
          · exact absurd rfl he
          · exact absurd (nm_trans (hA.head x h2) (hB.head e hes)) (nm_irr _)
        · exact h1
      simp only [List.length_cons] at this hl; omega
/-- The same answers, the same documents. -/
theorem dm_ext {A B : Dm} (hA : DmOk A) (hB : DmOk B) (h : ∀ q, dget A q = dget B q) : A = B := by
  have h1 : ∀ e ∈ A, e ∈ B := fun e he => dget_in hB (by rw [← h, dget_mem hA he])
  have h2 : ∀ e ∈ B, e ∈ A := fun e he => dget_in hA (by rw [h, dget_mem hB he])
  exact dm_eq hA hB h1 (Nat.le_antisymm (dm_sub hA hB h1) (dm_sub hB hA h2))
theorem dput_new {D : Dm} (h : DmOk D) {k v : Nm} (hk : dget D k = none) : (dput D k v).length = D.length + 1 := by
  rcases dm_cases h k with ⟨_, _, _, h4⟩ | ⟨l1, w, l2, _, h2, _⟩
  · rw [← (h4 v).length_eq, List.length_append]; rfl
  · rw [h2] at hk; cases hk
theorem putAll_len (f : Nm → Nm) : ∀ (r : List Nm) {D : Dm}, DmOk D → r.Nodup → (∀ n ∈ r, dget D n = none) → (putAll f D r).length = D.length + r.length
  | [], D, _, _, _ => rfl
  | x :: r, D, h, hn, hd => by
    rw [List.nodup_cons] at hn
    rw [putAll, putAll_len f r (h.put _ _) hn.2 fun n hn2 => by
      rw [dget_put, if_neg (fun he : n = x => hn.1 (he ▸ hn2))]; exact hd n (List.mem_cons_of_mem _ hn2), dput_new h (hd x (List.mem_cons_self ..)), List.length_cons]
    omega
/-- A row turned round has the same in it. -/
theorem turn_mem {α : Type} {l : List α} {t : Nat} (hl : 0 < l.length) (x : α) (d : α) : x ∈ l ↔ x ∈ (List.range l.length).map fun i => l.getD ((i + t % l.length) % l.length) d := by
  have hg : ∀ j, j < l.length → l.getD j d ∈ l := fun j hj => by
    rw [List.getD_eq_getElem?_getD, List.getElem?_eq_getElem hj]; exact List.getElem_mem hj
  refine ⟨fun hx => ?_, fun hx => ?_⟩
  · obtain ⟨j, hj⟩ := List.getElem?_of_mem hx
    have hjl := (List.getElem?_eq_some_iff.1 hj).1
    have ht := Nat.mod_lt t hl
    refine List.mem_map.2 ⟨(j + (l.length - t % l.length)) % l.length, List.mem_range.2 (Nat.mod_lt _ hl), ?_⟩
    have : ((j + (l.length - t % l.length)) % l.length + t % l.length) % l.length = j := by
      rw [Nat.mod_add_mod, show j + (l.length - t % l.length) + t % l.length = j + l.length by omega, Nat.add_mod_right, Nat.mod_eq_of_lt hjl]
    rw [this, List.getD_eq_getElem?_getD, hj]
    rfl
  · obtain ⟨i, hi, rfl⟩ := List.mem_map.1 hx
    exact hg _ (Nat.mod_lt _ hl)
end Go.Proofs.Ytnjkklkjlloedaa
