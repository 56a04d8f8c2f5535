/- server: Fork, by the abstract machine. -/
import Derived.Test.YtnjkklkjlloedaaSvE
import Derived.Test.YtnjkklkjlloedaaRng
namespace Go.Proofs.Ytnjkklkjlloedaa
open Go.RowKit
set_option linter.unusedVariables false
set_option linter.unusedSimpArgs false
set_option maxRecDepth 10000
/-- x[:n] of a row of texts, in a region that draws. -/
theorem TS_sliceRows_h {P : Program} {ops : Array Oper} {r : List Oper} {sl sl' : List AV} {σ : ASt} {Q : Exit → List AV → ASt → Prop} {dst : Option Tmp} {ty : TypeId} {pos : String} {after : Array Edge} {x z : Operand} {t e : TypeId} {by_ : Nat} {own : AOwn} {ls : List (List UInt8)} {N n : Nat} {k' : IntKind} {j : Int} (hx : aev sl x = .sl own (ls.map bsA) N) [T : TySl P t e 1 by_] (hz : aev sl z = .int k' j) (hN : N = ls.length) (hh : j = (n : Int)) (hlm : n ≤ ls.length) (hs : aput sl dst (lkA (ls.take n)) = sl') (h : ATK P ops r sl' σ Q) : ATK P ops (⟨dst, .slice t x none (some z) none, ty, pos, after, none⟩ :: r) sl σ Q := by
  subst hN
  refine ATK_slice_h hx hz hh hlm ?_ h
  rw [← hs]
  have h1 : (ls.take n).length = n := by rw [List.length_take]; omega
  simp only [Nat.mul_one, lkA, h1, List.map_take]
theorem perm_map_inv {α β : Type} {f : α → β} {l m : List β} (h : l.Perm m) : ∀ {L : List α}, m = L.map f → ∃ L0 : List α, L0.Perm L ∧ l = L0.map f := by
  induction h with
  | nil =>
    intro L hL
    exact ⟨[], by rw [List.map_eq_nil_iff.1 hL.symm], rfl⟩
  | cons x _ ih =>
    intro L hL
    cases L with
    | nil => cases hL
    | cons a r =>
      simp only [List.map_cons, List.cons.injEq] at hL
      obtain ⟨L0, h1, h2⟩ := ih hL.2
      exact ⟨a :: L0, h1.cons a, by rw [List.map_cons, ← h2, ← hL.1]⟩
  | swap x y l =>
    intro L hL
    match L, hL with
    | a :: b :: r, hL =>
      simp only [List.map_cons, List.cons.injEq] at hL
      exact ⟨b :: a :: r, List.Perm.swap _ _ _, by simp only [List.map_cons, ← hL.1, ← hL.2.1, ← hL.2.2]⟩
  | trans _ _ ih1 ih2 =>
    intro L hL
    obtain ⟨L1, h1, h2⟩ := ih2 hL
    obtain ⟨L0, h3, h4⟩ := ih1 h2
    exact ⟨L0, h3.trans h1, h4⟩
/-- What a fork leaves of the logs; what it makes. -/
def forkA (L : Lg) : Lg := L.filter fun e => e.1.1 != 1
def forkG (n : Nat) (e : (Int × Int) × List (List UInt8)) : (Int × Int) × List (List UInt8) := ((1, e.1.2), e.2.take n)
def forkL (L : Lg) (n : Nat) : Lg := forkA L ++ (L.filter fun e => e.1.1 == 0).map (forkG n)
abbrev LE := ((Int × Int) × List (List UInt8)) × Nat
/-- The first round's entries, as far as they are gone through. -/
def fk1 (E : List LE) (seen : List Nat) : List LE := E.filter fun e => !(seen.contains e.2 && e.1.1.1 == 1)
def fk2 (E : List LE) (seen : List Nat) : List LE := E.filter fun e => seen.contains e.2 && e.1.1.1 == 0
theorem svA_get {L : Lg} {i : Nat} {ka va : AV} (h : (svA L)[i]? = some (ka, va)) : ∃ e, L[i]? = some e ∧ ka = .agg [.int .i64 e.1.1, .int .i64 e.1.2] ∧ va = lkA e.2 := by
  rw [svA, List.getElem?_map] at h
  cases he : L[i]? with
  | none => rw [he] at h; cases h
  | some e =>
    rw [he] at h
    simp only [Option.map_some, Option.some.injEq, Prod.mk.injEq] at h
    exact ⟨e, rfl, h.1.symm, h.2.symm⟩
theorem svA_inv {kvs : List (AV × AV)} {bs : List Nat} {L : Lg} (h : kvs.Perm (svA L)) (hl : bs.length = kvs.length) : ∃ E : List LE, (E.map Prod.fst).Perm L ∧ kvs = svA (E.map Prod.fst) ∧ bs = E.map Prod.snd := by
  obtain ⟨L0, h1, h2⟩ := perm_map_inv h rfl
  have h3 : bs.length = L0.length := by rw [hl, h2, List.length_map]
  refine ⟨L0.zip bs, ?_, ?_, ?_⟩
  · rw [List.map_fst_zip (by omega)]; exact h1
  · rw [List.map_fst_zip (by omega)]; exact h2
  · rw [List.map_snd_zip (by omega)]
theorem svA_perm {L L' : Lg} (h : L.Perm L') : (svA L).Perm (svA L') := h.map _
theorem svA_nodup {L : Lg} (h : ((svA L).map Prod.fst).Nodup) : (L.map Prod.fst).Nodup := by
  rw [svA, List.map_map] at h
  have h2 : L.map (Prod.fst ∘ fun e : (Int × Int) × List (List UInt8) => (AV.agg [.int .i64 e.1.1, .int .i64 e.1.2], lkA e.2)) = (L.map Prod.fst).map (fun k : Int × Int => AV.agg [.int .i64 k.1, .int .i64 k.2]) := by rw [List.map_map]; rfl
  rw [h2] at h
  exact List.Pairwise.of_map _ (fun a b hne he => hne (by rw [he])) h
theorem zip_get {α β : Type} {E : List (α × β)} {i : Nat} {x : α} {y : β} (h1 : (E.map Prod.fst)[i]? = some x) (h2 : (E.map Prod.snd)[i]? = some y) : E[i]? = some (x, y) := by
  rw [List.getElem?_map] at h1 h2
  cases he : E[i]? with
  | none => rw [he] at h1; cases h1
  | some e =>
    rw [he] at h1 h2
    simp only [Option.map_some, Option.some.injEq] at h1 h2
    rw [← h1, ← h2]
theorem nd_inj {α β : Type} {f : α → β} : ∀ {l : List α}, (l.map f).Nodup → ∀ {x y : α}, x ∈ l → y ∈ l → f x = f y → x = y
  | [], _, x, _, hx, _, _ => by cases hx
  | a :: r, h, x, y, hx, hy, he => by
    rw [List.map_cons, List.nodup_cons] at h
    rcases List.mem_cons.1 hx with h1 | h1
    · rcases List.mem_cons.1 hy with h2 | h2
      · rw [h1, h2]
      · exact absurd (List.mem_map.2 ⟨y, h2, by rw [← he, h1]⟩) h.1
    · rcases List.mem_cons.1 hy with h2 | h2
      · exact absurd (List.mem_map.2 ⟨x, h1, by rw [he, h2]⟩) h.1
      · exact nd_inj h.2 h1 h2 he
/-- One more is gone through and stays. -/
theorem fk1_stay {E : List LE} {seen : List Nat} {b : Nat} (hn : (E.map Prod.snd).Nodup) {i : Nat} {e : LE} (hi : (fk1 E seen)[i]? = some e) (hb : e.2 = b) (h1 : e.1.1.1 ≠ 1) : fk1 E (seen ++ [b]) = fk1 E seen := by
  refine List.filter_congr fun x hx => ?_
  by_cases hxb : x.2 = b
  · have hem : e ∈ E := (List.mem_filter.1 (List.mem_of_getElem? hi)).1
    obtain rfl : x = e := nd_inj hn hx hem (by rw [hxb, hb])
    have : (x.1.1.1 == 1) = false := by simp [h1]
    rw [this, Bool.and_false, Bool.and_false]
  · simp [List.contains_eq_mem, hxb]
theorem erase_filter {α : Type} : ∀ {l : List (α × Nat)} {i : Nat} {e : α × Nat}, (l.map Prod.snd).Nodup → l[i]? = some e → l.eraseIdx i = l.filter fun x => x.2 != e.2
  | [], i, e, _, h => by simp at h
  | a :: r, 0, e, hn, h => by
    simp only [List.getElem?_cons_zero, Option.some.injEq] at h
    subst h
    rw [List.map_cons, List.nodup_cons] at hn
    rw [List.eraseIdx_cons_zero, List.filter_cons, if_neg (by simp)]
    refine (List.filter_eq_self.2 fun x hx => ?_).symm
    have : x.2 ≠ a.2 := fun he => hn.1 (List.mem_map.2 ⟨x, hx, he⟩)
    simpa using this
  | a :: r, i + 1, e, hn, h => by
    rw [List.map_cons, List.nodup_cons] at hn
    rw [List.getElem?_cons_succ] at h
    have hne : a.2 ≠ e.2 := fun he => hn.1 (List.mem_map.2 ⟨e, List.mem_of_getElem? h, he.symm⟩)
    rw [List.eraseIdx_cons_succ, List.filter_cons, if_pos (by simpa using hne), erase_filter hn.2 h]
theorem fk_nodup {E : List LE} {p : LE → Bool} (hn : (E.map Prod.snd).Nodup) : ((E.filter p).map Prod.snd).Nodup := (List.filter_sublist.map _).nodup hn
/-- One more is gone through and goes. -/
theorem fk1_del {E : List LE} {seen : List Nat} {b : Nat} (hn : (E.map Prod.snd).Nodup) {i : Nat} {e : LE} (hi : (fk1 E seen)[i]? = some e) (hb : e.2 = b) (h1 : e.1.1.1 = 1) : fk1 E (seen ++ [b]) = (fk1 E seen).eraseIdx i := by
  rw [erase_filter (l := fk1 E seen) (fk_nodup hn) hi, fk1, fk1, List.filter_filter]
  refine List.filter_congr fun x hx => ?_
  by_cases hxb : x.2 = b
  · have hem : e ∈ E := (List.mem_filter.1 (List.mem_of_getElem? hi)).1
    obtain rfl : x = e := nd_inj hn hx hem (by rw [hxb, hb])
    simp [List.contains_eq_mem, hxb, h1]
  · simp [List.contains_eq_mem, hxb, hb]
theorem fk1_all {E : List LE} {seen : List Nat} (h : ∀ b ∈ (fk1 E seen).map Prod.snd, b ∈ seen) : (fk1 E seen).map Prod.fst = forkA (E.map Prod.fst) := by
  have h1 : fk1 E seen = E.filter fun e => e.1.1.1 != 1 := by
    refine List.filter_congr fun x hx => ?_
    by_cases h1 : x.1.1.1 = 1
    · cases hc : seen.contains x.2 with
      | true => simp [h1]
      | false =>
        have hm : x ∈ fk1 E seen := List.mem_filter.2 ⟨hx, by rw [hc]; rfl⟩
        have := h _ (List.mem_map.2 ⟨x, hm, rfl⟩)
        simp [List.contains_eq_mem] at hc
        exact absurd this hc
    · have h2 : (x.1.1.1 == 1) = false := by simp [h1]
      rw [h2, bne, h2, Bool.and_false]
  rw [h1, forkA, List.filter_map]
  rfl
/-- How much is left of a range. -/
def lft (N : Nat) (seen : List Nat) : Nat := ((List.range N).filter fun j => !seen.contains j).length
theorem lft_lt {N b : Nat} {seen : List Nat} (hb : b < N) (hs : b ∉ seen) : lft N (seen ++ [b]) < lft N seen := by
  refine Go.filter_lt (fun j => !seen.contains j) (fun j => !(seen ++ [b]).contains j) (fun x hx => ?_) b ?_ ?_ (List.range N) (List.mem_range.2 hb)
  · simp [List.contains_eq_mem] at hx ⊢
    exact hx.1
  · simpa [List.contains_eq_mem] using hs
  · simp [List.contains_eq_mem]
theorem fk2_stay {E : List LE} {seen : List Nat} {b : Nat} (h : ∀ x ∈ E, x.2 = b → x.1.1.1 ≠ 0) : fk2 E (seen ++ [b]) = fk2 E seen := by
  refine List.filter_congr fun x hx => ?_
  by_cases hxb : x.2 = b
  · have : (x.1.1.1 == 0) = false := by simpa using h x hx hxb
    rw [this, Bool.and_false, Bool.and_false]
  · simp [List.contains_eq_mem, hxb]
theorem fk2_more : ∀ {E : List LE} {seen : List Nat} {e : LE}, (E.map Prod.snd).Nodup → e ∈ E → e.2 ∉ seen → e.1.1.1 = 0 → (fk2 E (seen ++ [e.2])).Perm (e :: fk2 E seen)
  | [], _, _, _, he, _, _ => by cases he
  | x :: r, seen, e, hn, he, hs, h0 => by
    rw [List.map_cons, List.nodup_cons] at hn
    rcases List.mem_cons.1 he with rfl | he
    · have h1 : fk2 r (seen ++ [e.2]) = fk2 r seen := fk2_stay fun x hx hxe => absurd (List.mem_map.2 ⟨x, hx, hxe⟩) hn.1
      rw [fk2, List.filter_cons, if_pos (by simp [List.contains_eq_mem, h0]), fk2, List.filter_cons, if_neg (by simp [List.contains_eq_mem, hs])]
      exact List.Perm.of_eq (congrArg _ h1)
    · have hne : x.2 ≠ e.2 := fun h => hn.1 (List.mem_map.2 ⟨e, he, h.symm⟩)
      have ih := fk2_more (seen := seen) hn.2 he hs h0
      have h1 : ((seen ++ [e.2]).contains x.2 && x.1.1.1 == 0) = (seen.contains x.2 && x.1.1.1 == 0) := by simp [List.contains_eq_mem, hne]
      rw [fk2, List.filter_cons, fk2, List.filter_cons, h1]
      split
      · exact (ih.cons x).trans (List.Perm.swap _ _ _)
      · exact ih
theorem forkA_mem {L : Lg} {e : (Int × Int) × List (List UInt8)} (h : e ∈ forkA L) : e ∈ L ∧ e.1.1 ≠ 1 := by
  have := List.mem_filter.1 h
  exact ⟨this.1, by simpa using this.2⟩
theorem forkL_perm {L L0 L1 A : Lg} {n : Nat} (h0 : L0.Perm L) (h1 : L1.Perm (forkA L0)) (hA : A.Perm ((L1.filter fun e => e.1.1 == 0).map (forkG n))) : (L1 ++ A).Perm (forkL L n) := by
  have h2 : (forkA L0).Perm (forkA L) := h0.filter _
  refine (h1.trans h2).append (hA.trans (List.Perm.map _ ?_))
  refine ((h1.trans h2).filter _).trans (List.Perm.of_eq ?_)
  rw [forkA, List.filter_filter]
  refine List.filter_congr fun x _ => ?_
  by_cases h : x.1.1 = 0
  · simp [h]
  · simp [h]
end Go.Proofs.Ytnjkklkjlloedaa
