/- The abstract machine: slices: literals, append, bytes of a text, make, copy; struct literals. -/
import Derived.Test.YtnjkklkjlloedaaAm5
namespace Go.Proofs.Ytnjkklkjlloedaa
open Go.RowKit
set_option linter.unusedVariables false
set_option linter.unusedSimpArgs false

variable {base : Nat} {Fi : Int → Prop} {M M' M'' : MM} {w w' w'' : World}
variable {P : Program} {ops : Array Oper} {r : List Oper} {sl sl' : List AV} {σ σ' : ASt} {Q : Exit → List AV → ASt → Prop}
variable {d : Tmp} {dst : Option Tmp} {ty : TypeId} {pos : String} {after : Array Edge} {x y z : Operand} {gd : Option (Nat × Bool)} {op : Op}

/-! ### Worlds that only grow -/
structure Grew (w w' : World) : Prop where
  os : w'.os = w.os
  tape : w'.tape = w.tape
  output : w'.output = w.output
  size : w.heap.size ≤ w'.heap.size
  old : ∀ b, b < w.heap.size → w'.heap[b]? = w.heap[b]?
theorem Grew.alloc (w : World) (o : Obj) : Grew w (w.alloc o) := ⟨rfl, rfl, rfl, by simp, fun b hb => Below.heap_alloc w o b hb⟩
theorem Grew.drew_alloc (w : World) (o : Obj) : Grew w (w.drew.alloc o) := ⟨rfl, rfl, rfl, by simp, fun b hb => Below.heap_alloc w.drew o b hb⟩
theorem Grew.refl (w : World) : Grew w w := ⟨rfl, rfl, rfl, Nat.le_refl _, fun _ _ => rfl⟩
theorem Below.grew {w w' : World} (h : Below w.heap.size w w') : Grew w w' := ⟨h.os, h.tape, h.output, h.size, h.block⟩
theorem Grew.stp (h : Grew w w') (S : St base Fi M w σ) : Stp base Fi M w M w' :=
  ⟨h.os, h.tape, h.output, h.size, fun k hk => h.old k (by have := S.base_le; omega), fun _ _ h => h, fun id T h => ⟨T, h, rfl, .inl rfl⟩, fun b j v hs hc => ⟨(World.cell?_of_block (w := w) (a := ⟨b, j, none⟩) (h.old b (cell_lt hc))).trans hc, hs⟩,
    fun id b _ hb => h.old b (S.obsz id b hb), fun _ _ h => h, fun id T b e ce _ hT hb => h.old b (S.tksz id T b e ce hT hb)⟩
theorem Grew.st (h : Grew w w') (S : St base Fi M w σ) : St base Fi M w' σ := by
  have T := h.stp S
  have hs := h.size
  refine ⟨by have := S.base_le; omega, ?_, ?_, S.inj, S.dis, S.tinj, fun id b hb => by have := S.obsz id b hb; omega, fun id T b e ce h1 h2 => by have := S.tksz id T b e ce h1 h2; omega, S.fresh⟩
  · intro id cs hl
    obtain ⟨h1, b, us, e', h2, h3, h4, h5⟩ := S.obs id cs hl
    exact ⟨h1, b, us, e', h2, h3, by rw [h.old b (S.obsz id b h2)]; exact h4, RepsL.stp T _ _ h5⟩
  · intro id top hl
    obtain ⟨h1, Tk, h2, h3, h4⟩ := S.tks id top hl
    refine ⟨h1, Tk, h2, h3, fun b e ce hb => ?_⟩
    obtain ⟨h5, h6⟩ := h4 b e ce hb
    have hB := h.old b (S.tksz id Tk b e ce h2 hb)
    exact ⟨h5, h6.heap hB⟩
/-- A block that nobody writes to. -/
theorem stab_new (S : St base Fi M w σ) {b : Nat} (hb : w.heap.size ≤ b) (j : Nat) : stab M b j :=
  ⟨fun id h => by have := S.obsz id b h; omega, fun id T e ce h1 h2 => by have := S.tksz id T b e ce h1 h2; omega⟩

/-! ### Buffers -/
def MM.tok (M : MM) (id : Int) (T : Tk) : MM := ⟨M.ob, fun i => if i = id then some T else M.tk i, M.fz⟩
theorem Grew.tok (h : Grew w w') (S : St base Fi M w σ) {id : Int} {T : Tk} (hid : id = σ.next ∨ ∃ T0, M.tk id = some T0 ∧ T.sz = T0.sz ∧ T0.top < T.top ∧ ¬ Fi id) (hb : ∀ b e ce, T.blk = some (b, e, ce) → w.heap.size ≤ b) : Stp base Fi M w (M.tok id T) w' := by
  refine ⟨h.os, h.tape, h.output, h.size, fun k hk => h.old k (by have := S.base_le; omega), fun _ _ h => h, ?_, ?_, fun id b _ hb => h.old b (S.obsz id b hb), fun _ _ h => h, fun id T b e ce _ hT hb => h.old b (S.tksz id T b e ce hT hb)⟩
  · intro i T1 h1
    by_cases hi : i = id
    · subst hi
      rcases hid with rfl | ⟨T0, h2, h3, h4, h5⟩
      · rw [(S.fresh _ (Int.le_refl _)).2.1] at h1; cases h1
      · rw [h2] at h1; cases h1
        exact ⟨T, by simp [MM.tok], h3, .inr ⟨h4, h5⟩⟩
    · exact ⟨T1, by simp [MM.tok, hi, h1], rfl, .inl rfl⟩
  · intro b j v hs hc
    have hlt := cell_lt hc
    refine ⟨(World.cell?_of_block (w := w) (a := ⟨b, j, none⟩) (h.old b hlt)).trans hc, hs.1, fun i T1 e ce h1 h2 => ?_⟩
    simp only [MM.tok] at h1
    split at h1
    · cases h1; have := hb b e ce h2; omega
    · exact hs.2 i T1 e ce h1 h2
theorem Grew.tok_st (h : Grew w w') (S : St base Fi M w σ) {id : Int} {T : Tk} (hid : id = σ.next ∨ ∃ T0, M.tk id = some T0 ∧ T.sz = T0.sz ∧ T0.top < T.top ∧ ¬ Fi id)
    (hb : ∀ b e ce, T.blk = some (b, e, ce) → w.heap.size ≤ b ∧ b < w'.heap.size ∧ Room w' b ce)
    {toks : List (Int × Nat)} {next : Int} (ht : ∀ i top, alook toks i = some top → (i = id ∧ top = T.top) ∨ (i ≠ id ∧ alook σ.toks i = some top)) (hn : σ.next ≤ next) (hn2 : id < next) : St base Fi (M.tok id T) w' ⟨σ.objs, toks, next⟩ := by
  have T1 := h.tok S hid (fun b e ce h => (hb b e ce h).1)
  have hs := h.size
  have hFi : ¬ Fi id := by
    rcases hid with rfl | ⟨_, _, _, _, h⟩
    · exact (S.fresh _ (Int.le_refl _)).2.2.1
    · exact h
  refine ⟨by have := S.base_le; omega, ?_, ?_, S.inj, ?_, ?_, fun id b hb => by have := S.obsz id b hb; omega, ?_, ?_⟩
  · intro id cs hl
    obtain ⟨h1, b, us, e', h2, h3, h4, h5⟩ := S.obs id cs hl
    exact ⟨h1, b, us, e', h2, h3, by rw [h.old b (S.obsz id b h2)]; exact h4, RepsL.stp T1 _ _ h5⟩
  · intro i top hl
    rcases ht i top hl with ⟨rfl, rfl⟩ | ⟨hne, hl'⟩
    · exact ⟨hFi, T, by simp [MM.tok], rfl, fun b e ce hbk => ⟨by have := (hb b e ce hbk).1; have := S.base_le; omega, (hb b e ce hbk).2.2⟩⟩
    · obtain ⟨h1, Tk, h2, h3, h4⟩ := S.tks i top hl'
      refine ⟨h1, Tk, by simp [MM.tok, hne, h2], h3, fun b e ce hb => ?_⟩
      obtain ⟨h5, h6⟩ := h4 b e ce hb
      have hB := h.old b (S.tksz i Tk b e ce h2 hb)
      exact ⟨h5, h6.heap hB⟩
  · intro i i' b T2 e ce h1 h2 h3
    simp only [MM.tok] at h2
    split at h2
    · cases h2; have := (hb b e ce h3).1; have := S.obsz i b h1; omega
    · exact S.dis i i' b T2 e ce h1 h2 h3
  · intro i i' T2 T3 b e ce e' ce' h1 h2 h3 h4
    simp only [MM.tok] at h1 h2
    split at h1 <;> split at h2
    · omega
    · cases h1; have := (hb b e ce h3).1; have := S.tksz i' T3 b e' ce' h2 h4; omega
    · cases h2; have := (hb b e' ce' h4).1; have := S.tksz i T2 b e ce h1 h3; omega
    · exact S.tinj i i' T2 T3 b e ce e' ce' h1 h2 h3 h4
  · intro i T2 b e ce h1 h2
    simp only [MM.tok] at h1
    split at h1
    · cases h1; exact (hb b e ce h2).2.1
    · have := S.tksz i T2 b e ce h1 h2; omega
  · intro i hi
    have hi' : next ≤ i := hi
    obtain ⟨h1, h2, h3⟩ := S.fresh i (by omega)
    refine ⟨h1, ?_, h3⟩
    simp only [MM.tok]
    rw [if_neg (by omega)]; exact h2

/-- An append into a buffer's room. -/
theorem tape_setCells (g : Nat) : ∀ (vs : List Value) (o : Nat) (w : World), (w.setCells g o vs).tape = w.tape := by
  intro vs
  induction vs with
  | nil => intros; rfl
  | cons v r ih => intro o w; rw [World.setCells, ih]; rfl
theorem Room.setCell {w : World} {b ce : Nat} (h : Room w b ce) (a : Addr) (x : Value) : Room (w.setCell a x) b ce := by
  obtain ⟨vs, ty, h1, h2⟩ := h
  by_cases hb : b = a.block
  · subst hb
    refine ⟨if a.spot.isSome then vs else vs.setIfInBounds a.off x, ty, ?_, by split <;> simpa using h2⟩
    unfold World.setCell
    rw [Array.getElem?_modify, if_pos rfl, h1]
    rfl
  · exact ⟨vs, ty, by rw [← h1]; exact heap_setCell_other w a b x hb, h2⟩
theorem Room.setCells {b ce : Nat} (g : Nat) : ∀ (vs : List Value) (o : Nat) {w : World}, Room w b ce → Room (w.setCells g o vs) b ce
  | [], _, _, h => h
  | v :: vs, o, w, h => by rw [World.setCells]; exact Room.setCells g vs (o + 1) (h.setCell _ _)
theorem room_stp (S : St base Fi M w σ) {id : Int} {top b e ce m : Nat} {T : Tk} (ho : alook σ.toks id = some top) (hT : M.tk id = some T) (hb : T.blk = some (b, e, ce)) (news : List Value) (hm : 0 < m) : Stp base Fi M w (M.tok id ⟨T.sz, T.top + m, some (b, e + news.length, ce)⟩) (w.setCells b e news) := by
  obtain ⟨hF, T', h1, h2, h3⟩ := S.tks id top ho
  rw [hT] at h1; cases h1
  obtain ⟨h4, h5⟩ := h3 b e ce hb
  refine ⟨World.os_setCells _ _ _ _, tape_setCells _ _ _ _, World.output_setCells _ _ _ _, by rw [size_setCells]; exact Nat.le_refl _, fun k hk => ?_, fun _ _ h => h, ?_, ?_, ?_, fun _ _ h => h, ?_⟩
  · exact World.heap_setCells_other _ _ _ _ (by have := S.base_le; omega) (by omega)
  · intro i T1 h1
    by_cases hi : i = id
    · subst hi; rw [hT] at h1; cases h1
      exact ⟨⟨T.sz, T.top + m, some (b, e + news.length, ce)⟩, by simp [MM.tok], rfl, .inr ⟨Nat.lt_add_of_pos_right hm, hF⟩⟩
    · exact ⟨T1, by simp [MM.tok, hi, h1], rfl, .inl rfl⟩
  · intro c j v hs hc
    have hlt : c = b → j < e := by rintro rfl; exact hs.2 id T e ce hT hb
    refine ⟨?_, hs.1, fun i T1 e' ce' h1 h2 => ?_⟩
    · rw [World.cell?_setCells_out b news e w ⟨c, j, none⟩ (fun hcb _ => by simp at hcb ⊢; have := hlt hcb; omega)]; exact hc
    · simp only [MM.tok] at h1
      split at h1
      · cases h1; simp at h2; obtain ⟨rfl, rfl, rfl⟩ := h2; have := hlt rfl; omega
      · exact hs.2 i T1 e' ce' h1 h2
  · intro i c hf hc
    refine World.heap_setCells_other _ _ _ _ (S.obsz i c hc) ?_
    rintro rfl; exact S.dis i id c T e ce hc hT hb
  · intro i T1 c e' ce' hf h1 h2
    refine World.heap_setCells_other _ _ _ _ (S.tksz i T1 c e' ce' h1 h2) ?_
    rintro rfl; exact hF (S.tinj id i T T1 c e ce e' ce' hT h1 hb h2 ▸ hf)
theorem room_st (S : St base Fi M w σ) {id : Int} {top b e ce m : Nat} {T : Tk} (ho : alook σ.toks id = some top) (hT : M.tk id = some T) (hb : T.blk = some (b, e, ce)) (news : List Value) (hm : 0 < m) : St base Fi (M.tok id ⟨T.sz, T.top + m, some (b, e + news.length, ce)⟩) (w.setCells b e news) ⟨σ.objs, aset σ.toks id (T.top + m), σ.next⟩ := by
  have T1 := room_stp S ho hT hb news hm
  obtain ⟨hF, T', h1, h2, h3⟩ := S.tks id top ho
  rw [hT] at h1; cases h1
  obtain ⟨h4, h5⟩ := h3 b e ce hb
  refine ⟨by rw [size_setCells]; exact S.base_le, ?_, ?_, S.inj, ?_, ?_, by rw [size_setCells]; exact S.obsz, ?_, ?_⟩
  · intro i cs hl
    obtain ⟨h1, c, us, e', h6, h7, h8, h9⟩ := S.obs i cs hl
    exact ⟨h1, c, us, e', h6, h7, by rw [World.heap_setCells_other _ _ _ _ (S.obsz i c h6) (by rintro rfl; exact S.dis i id c T e ce h6 hT hb)]; exact h8, RepsL.stp T1 _ _ h9⟩
  · intro i top' hl
    simp only [alook_aset] at hl
    split at hl
    · rename_i he; subst he
      rw [ho] at hl; cases hl
      refine ⟨hF, ⟨T.sz, T.top + m, some (b, e + news.length, ce)⟩, by simp [MM.tok], rfl, fun c e' ce' hc => ?_⟩
      simp at hc; obtain ⟨rfl, rfl, rfl⟩ := hc
      exact ⟨h4, Room.setCells _ _ _ h5⟩
    · rename_i hne
      obtain ⟨h1, Tk, h6, h7, h8⟩ := S.tks i top' hl
      refine ⟨h1, Tk, by simp [MM.tok, Ne.symm hne, h6], h7, fun c e' ce' hc => ?_⟩
      obtain ⟨h9, h10⟩ := h8 c e' ce' hc
      exact ⟨h9, Room.setCells _ _ _ h10⟩
  · intro i i' c T2 e' ce' h1 h2 h3
    simp only [MM.tok] at h2
    split at h2
    · cases h2; simp at h3; obtain ⟨rfl, rfl, rfl⟩ := h3; exact S.dis i id b T e ce h1 hT hb
    · exact S.dis i i' c T2 e' ce' h1 h2 h3
  · intro i i' T2 T3 c e1 ce1 e2 ce2 h1 h2 h3 h4
    simp only [MM.tok] at h1 h2
    split at h1 <;> split at h2
    · omega
    · cases h1; simp at h3; obtain ⟨rfl, rfl, rfl⟩ := h3; rename_i hi _; subst hi; exact S.tinj _ i' T T3 b e ce e2 ce2 hT h2 hb h4
    · cases h2; simp at h4; obtain ⟨rfl, rfl, rfl⟩ := h4; rename_i _ hi; subst hi; exact S.tinj i _ T2 T b e1 ce1 e ce h1 hT h3 hb
    · exact S.tinj i i' T2 T3 c e1 ce1 e2 ce2 h1 h2 h3 h4
  · intro i T2 c e' ce' h1 h2
    rw [size_setCells]
    simp only [MM.tok] at h1
    split at h1
    · cases h1; simp at h2; obtain ⟨rfl, rfl, rfl⟩ := h2; exact S.tksz id T b e ce hT hb
    · exact S.tksz i T2 c e' ce' h1 h2
  · intro i hi
    obtain ⟨h1, h2, h3⟩ := S.fresh i hi
    refine ⟨h1, ?_, h3⟩
    simp only [MM.tok]
    rw [if_neg (by rintro rfl; rw [hT] at h2; cases h2)]; exact h2
end Go.Proofs.Ytnjkklkjlloedaa
