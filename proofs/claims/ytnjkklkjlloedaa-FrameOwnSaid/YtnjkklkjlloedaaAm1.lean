/- An abstract machine over the operations: values without addresses, capacities and orders; what its states stand for. -/
import Derived.Test.YtnjkklkjlloedaaW
namespace Go.Proofs.Ytnjkklkjlloedaa
open Go.RowKit
set_option linter.unusedVariables false
set_option linter.unusedSimpArgs false

/-- What is known of a slice's room behind its end. -/
inductive AOwn where
  | none
  | full
  | tok (id : Int) (top sz : Nat)

/-- A value, without its addresses. -/
inductive AV where
  | any
  | und
  | int (k : IntKind) (n : Int)
  | bool (b : Bool)
  | str (s : List UInt8)
  | nilp
  | ptr (id : Int) (off : Nat)
  | epr (cells : List AV) (off : Nat)
  | nils
  | sl (own : AOwn) (cells : List AV) (n : Nat)
  | row (id : Int) (off n : Nat)
  | buf (id : Int) (off n c : Nat)
  | nilm
  | map (id : Int)
  | fn (f : FuncId) (first captured : List AV)
  | iface (t : TypeId) (v : AV)
  | nili
  | agg (cs : List AV)
  | tup (cs : List AV)

/-- A buffer that one may append to: an element's cells, the number of elements ahead of its end, its block, the end's cell, the room's end. -/
structure Tk where
  sz : Nat
  top : Nat
  blk : Option (Nat × Nat × Nat)

/-- Where the objects and buffers lie. -/
structure MM where
  ob : Int → Option Nat
  tk : Int → Option Tk
  fz : Int → Prop

/-- A cell that never turns. -/
def stab (M : MM) (b j : Nat) : Prop := (∀ id, M.ob id = some b → M.fz id) ∧ ∀ id T e ce, M.tk id = some T → T.blk = some (b, e, ce) → j < e
def Mem (M : MM) (w : World) (b o : Nat) (vs : List Value) : Prop := ∀ j u, vs[j]? = some u → w.cell? ⟨b, o + j, none⟩ = some u ∧ stab M b (o + j)
def OwnOk (M : MM) (own : AOwn) (A : Option Addr) (n c k : Nat) : Prop :=
  match own with
  | .none => True
  | .full => c = n
  | .tok id top sz => ∃ T, M.tk id = some T ∧ T.sz = sz ∧ top ≤ T.top ∧ k = n * T.sz ∧ (top = T.top → match T.blk with
    | none => c = n
    | some (b, e, ce) => ∃ o, A = some ⟨b, o, none⟩ ∧ o + k = e ∧ o + c * T.sz = ce)

mutual
def Reps (M : MM) (w : World) : AV → Value → Prop
  | .any, _ => True
  | .und, v => v = undef
  | .int k n, v => v = .int k n
  | .bool b, v => v = .bool b
  | .str s, v => v = .string ⟨s.toArray⟩ ∧ s.length ≤ maxLen
  | .nilp, v => v = .pointer none
  | .ptr id off, v => ∃ b, M.ob id = some b ∧ v = .pointer (some ⟨b, off, none⟩)
  | .epr cells off, v => ∃ b o vs, v = .pointer (some ⟨b, o + off, none⟩) ∧ Mem M w b o vs ∧ RepsL M w cells vs
  | .nils, v => v = .slice none 0 0
  | .sl own cells n, v => ∃ A c vs, v = .slice A n c ∧ n ≤ c ∧ c ≤ maxLen ∧ (A = none → c = 0) ∧ (n = 0 ∨ ∃ b o, A = some ⟨b, o, none⟩ ∧ Mem M w b o vs) ∧ RepsL M w cells vs ∧ (n = 0 → cells = []) ∧ OwnOk M own A n c cells.length
  | .row id off n, v => ∃ b, M.ob id = some b ∧ v = .slice (some ⟨b, off, none⟩) n n ∧ n ≤ maxLen
  | .buf id off n c, v => ∃ b, M.ob id = some b ∧ v = .slice (some ⟨b, off, none⟩) n c ∧ n ≤ c ∧ c ≤ maxLen
  | .nilm, v => v = .map none
  | .map id, v => ∃ b, M.ob id = some b ∧ v = .map (some b)
  | .fn f first captured, v => ∃ fs cs, v = .func (.func f) fs cs ∧ RepsL M w first fs.toList ∧ RepsL M w captured cs.toList
  | .iface t a, v => ∃ u, v = .iface t u ∧ Reps M w a u
  | .nili, v => v = .nilIface
  | .agg cs, v => ∃ vs : Array Value, v = .agg vs ∧ RepsL M w cs vs.toList
  | .tup cs, v => ∃ vs : Array Value, v = .tuple vs ∧ RepsL M w cs vs.toList
def RepsL (M : MM) (w : World) : List AV → List Value → Prop
  | [], vs => vs = []
  | a :: r, vs => ∃ v vr, vs = v :: vr ∧ Reps M w a v ∧ RepsL M w r vr
end

/-- From one world to a later one: what never turns has not turned. -/
structure Stp (base : Nat) (Fi : Int → Prop) (M : MM) (w : World) (M' : MM) (w' : World) : Prop where
  os : w'.os = w.os
  tape : w'.tape = w.tape
  output : w'.output = w.output
  size : w.heap.size ≤ w'.heap.size
  below : ∀ k, k < base → w'.heap[k]? = w.heap[k]?
  ob : ∀ id b, M.ob id = some b → M'.ob id = some b
  tk : ∀ id T, M.tk id = some T → ∃ T', M'.tk id = some T' ∧ T'.sz = T.sz ∧ (T' = T ∨ (T.top < T'.top ∧ ¬ Fi id))
  cell : ∀ b j v, stab M b j → w.cell? ⟨b, j, none⟩ = some v → w'.cell? ⟨b, j, none⟩ = some v ∧ stab M' b j
  fob : ∀ id b, Fi id → M.ob id = some b → w'.heap[b]? = w.heap[b]?
  ffz : ∀ id, Fi id → M'.fz id → M.fz id
  ftk : ∀ id T b e ce, Fi id → M.tk id = some T → T.blk = some (b, e, ce) → w'.heap[b]? = w.heap[b]?

variable {base : Nat} {Fi : Int → Prop} {M M' M'' : MM} {w w' w'' : World}

theorem Stp.refl (base : Nat) (Fi : Int → Prop) (M : MM) (w : World) : Stp base Fi M w M w :=
  ⟨rfl, rfl, rfl, Nat.le_refl _, fun _ _ => rfl, fun _ _ h => h, fun _ T h => ⟨T, h, rfl, .inl rfl⟩, fun _ _ _ h h' => ⟨h', h⟩, fun _ _ _ _ => rfl, fun _ _ h => h, fun _ _ _ _ _ _ _ _ => rfl⟩
theorem Stp.trans (h : Stp base Fi M w M' w') (k : Stp base Fi M' w' M'' w'') : Stp base Fi M w M'' w'' := by
  refine ⟨k.os.trans h.os, k.tape.trans h.tape, k.output.trans h.output, Nat.le_trans h.size k.size, fun i hi => (k.below i hi).trans (h.below i hi), fun id b hb => k.ob _ _ (h.ob _ _ hb), ?_, ?_, ?_, fun id hf hz => h.ffz id hf (k.ffz id hf hz), ?_⟩
  · intro id T hT
    obtain ⟨T', h1, h2, h3⟩ := h.tk id T hT
    obtain ⟨T'', k1, k2, k3⟩ := k.tk id T' h1
    refine ⟨T'', k1, k2.trans h2, ?_⟩
    rcases h3 with rfl | ⟨h3, hf⟩
    · exact k3
    · rcases k3 with rfl | ⟨k3, _⟩
      · exact .inr ⟨h3, hf⟩
      · exact .inr ⟨Nat.lt_trans h3 k3, hf⟩
  · intro b j v hs hc
    obtain ⟨h1, h2⟩ := h.cell b j v hs hc
    exact k.cell b j v h2 h1
  · intro id b hf hb
    exact (k.fob id b hf (h.ob _ _ hb)).trans (h.fob id b hf hb)
  · intro id T b e ce hf hT hb
    obtain ⟨T', h1, _, h3⟩ := h.tk id T hT
    rcases h3 with rfl | ⟨_, hn⟩
    · exact (k.ftk id T' b e ce hf h1 hb).trans (h.ftk id T' b e ce hf hT hb)
    · exact absurd hf hn

theorem Mem.stp (h : Stp base Fi M w M' w') {b o : Nat} {vs : List Value} (m : Mem M w b o vs) : Mem M' w' b o vs := fun j u hu => h.cell b (o + j) u (m j u hu).2 (m j u hu).1
theorem OwnOk.stp (h : Stp base Fi M w M' w') {own : AOwn} {A : Option Addr} {n c k : Nat} (m : OwnOk M own A n c k) : OwnOk M' own A n c k := by
  cases own with
  | none => trivial
  | full => exact m
  | tok id top sz =>
    obtain ⟨T, h1, h0, h2, h3, h4⟩ := m
    obtain ⟨T', k1, k2, k3⟩ := h.tk id T h1
    refine ⟨T', k1, by rw [k2]; exact h0, ?_, by rw [k2]; exact h3, ?_⟩
    · rcases k3 with rfl | ⟨k3, _⟩
      · exact h2
      · omega
    · rcases k3 with rfl | ⟨k3, _⟩
      · exact h4
      · intro e; omega

mutual
theorem Reps.stp (h : Stp base Fi M w M' w') : ∀ (a : AV) (v : Value), Reps M w a v → Reps M' w' a v
  | .any, _, _ => by unfold Reps; trivial
  | .und, _, r => by unfold Reps at r ⊢; exact r
  | .int _ _, _, r => by unfold Reps at r ⊢; exact r
  | .bool _, _, r => by unfold Reps at r ⊢; exact r
  | .str _, _, r => by unfold Reps at r ⊢; exact r
  | .nilp, _, r => by unfold Reps at r ⊢; exact r
  | .ptr id off, _, r => by
    unfold Reps at r ⊢
    obtain ⟨b, h1, h2⟩ := r
    exact ⟨b, h.ob _ _ h1, h2⟩
  | .epr cells off, _, r => by
    unfold Reps at r ⊢
    obtain ⟨b, o, vs, h1, h2, h3⟩ := r
    exact ⟨b, o, vs, h1, h2.stp h, RepsL.stp h cells vs h3⟩
  | .nils, _, r => by unfold Reps at r ⊢; exact r
  | .sl own cells n, _, r => by
    unfold Reps at r ⊢
    obtain ⟨A, c, vs, h1, h2, h3, h4, h5, h6, h7, h8⟩ := r
    exact ⟨A, c, vs, h1, h2, h3, h4, h5.imp id fun ⟨b, o, hA, hm⟩ => ⟨b, o, hA, hm.stp h⟩, RepsL.stp h cells vs h6, h7, h8.stp h⟩
  | .buf id off n c, _, r => by
    unfold Reps at r ⊢
    obtain ⟨b, h1, h2⟩ := r
    exact ⟨b, h.ob _ _ h1, h2⟩
  | .row id off n, _, r => by
    unfold Reps at r ⊢
    obtain ⟨b, h1, h2⟩ := r
    exact ⟨b, h.ob _ _ h1, h2⟩
  | .nilm, _, r => by unfold Reps at r ⊢; exact r
  | .map id, _, r => by
    unfold Reps at r ⊢
    obtain ⟨b, h1, h2⟩ := r
    exact ⟨b, h.ob _ _ h1, h2⟩
  | .fn f first captured, _, r => by
    unfold Reps at r ⊢
    obtain ⟨fs, cs, h1, h2, h3⟩ := r
    exact ⟨fs, cs, h1, RepsL.stp h first _ h2, RepsL.stp h captured _ h3⟩
  | .iface t a, _, r => by
    unfold Reps at r ⊢
    obtain ⟨u, h1, h2⟩ := r
    exact ⟨u, h1, Reps.stp h a u h2⟩
  | .nili, _, r => by unfold Reps at r ⊢; exact r
  | .agg cs, _, r => by
    unfold Reps at r ⊢
    obtain ⟨vs, h1, h2⟩ := r
    exact ⟨vs, h1, RepsL.stp h cs _ h2⟩
  | .tup cs, _, r => by
    unfold Reps at r ⊢
    obtain ⟨vs, h1, h2⟩ := r
    exact ⟨vs, h1, RepsL.stp h cs _ h2⟩
theorem RepsL.stp (h : Stp base Fi M w M' w') : ∀ (xs : List AV) (vs : List Value), RepsL M w xs vs → RepsL M' w' xs vs
  | [], _, r => by unfold RepsL at r ⊢; exact r
  | a :: r, vs, hr => by
    unfold RepsL at hr ⊢
    obtain ⟨v, vr, h1, h2, h3⟩ := hr
    exact ⟨v, vr, h1, Reps.stp h a v h2, RepsL.stp h r vr h3⟩
end

/-! ### Rows of values -/
theorem RepsL.length : ∀ {xs : List AV} {vs : List Value}, RepsL M w xs vs → vs.length = xs.length
  | [], _, r => by unfold RepsL at r; subst r; rfl
  | a :: r, vs, hr => by
    unfold RepsL at hr
    obtain ⟨v, vr, rfl, _, h3⟩ := hr
    simp [h3.length]
theorem RepsL.get : ∀ {xs : List AV} {vs : List Value} (j : Nat) (a : AV), RepsL M w xs vs → xs[j]? = some a → ∃ v, vs[j]? = some v ∧ Reps M w a v
  | [], _, j, a, _, h => by simp at h
  | b :: r, vs, j, a, hr, h => by
    unfold RepsL at hr
    obtain ⟨v, vr, rfl, h2, h3⟩ := hr
    cases j with
    | zero => simp at h; subst h; exact ⟨v, rfl, h2⟩
    | succ j => exact h3.get j a (by simpa using h)
theorem RepsL.of_get : ∀ {xs : List AV} {vs : List Value}, vs.length = xs.length → (∀ (j : Nat) (a : AV) (v : Value), xs[j]? = some a → vs[j]? = some v → Reps M w a v) → RepsL M w xs vs
  | [], vs, hl, _ => by unfold RepsL; exact List.eq_nil_of_length_eq_zero (by simpa using hl)
  | a :: r, vs, hl, h => by
    match vs, hl with
    | v :: vr, hl =>
      unfold RepsL
      exact ⟨v, vr, rfl, h 0 a v rfl rfl, RepsL.of_get (by simpa using hl) fun j a' v' ha hv => h (j + 1) a' v' (by simpa using ha) (by simpa using hv)⟩
theorem RepsL.set {xs : List AV} {vs : List Value} (h : RepsL M w xs vs) (j : Nat) {a : AV} {v : Value} (r : Reps M w a v) : RepsL M w (xs.set j a) (vs.set j v) := by
  have hl := h.length
  refine RepsL.of_get (by simp [hl]) fun i a' v' ha hv => ?_
  rw [List.getElem?_set] at ha hv
  by_cases hij : j = i
  · subst hij
    rw [if_pos rfl] at ha hv
    split at ha
    · rw [if_pos (by omega)] at hv; cases ha; cases hv; exact r
    · cases ha
  · rw [if_neg hij] at ha hv
    obtain ⟨u, hu, hr⟩ := h.get i a' ha
    rw [hv] at hu; cases hu; exact hr
theorem RepsL.append {xs bs : List AV} {vs us : List Value} (h : RepsL M w xs vs) (k : RepsL M w bs us) : RepsL M w (xs ++ bs) (vs ++ us) := by
  have hl := h.length
  refine RepsL.of_get (by simp [h.length, k.length]) fun i a v ha hv => ?_
  by_cases hi : i < xs.length
  · rw [List.getElem?_append_left hi] at ha
    rw [List.getElem?_append_left (by omega)] at hv
    obtain ⟨u, hu, hr⟩ := h.get i a ha
    rw [hv] at hu; cases hu; exact hr
  · rw [List.getElem?_append_right (by omega)] at ha
    rw [List.getElem?_append_right (by omega), hl] at hv
    obtain ⟨u, hu, hr⟩ := k.get _ a ha
    rw [hv] at hu; cases hu; exact hr
theorem RepsL.drop {xs : List AV} {vs : List Value} (h : RepsL M w xs vs) (k : Nat) : RepsL M w (xs.drop k) (vs.drop k) := by
  have hl := h.length
  refine RepsL.of_get (by simp [h.length]) fun i a v ha hv => ?_
  rw [List.getElem?_drop] at ha hv
  obtain ⟨u, hu, hr⟩ := h.get _ a ha
  rw [hv] at hu; cases hu; exact hr
theorem RepsL.take {xs : List AV} {vs : List Value} (h : RepsL M w xs vs) (k : Nat) : RepsL M w (xs.take k) (vs.take k) := by
  have hl := h.length
  refine RepsL.of_get (by simp [h.length]) fun i a v ha hv => ?_
  rw [List.getElem?_take] at ha hv
  split at ha
  · rename_i hk
    rw [if_pos hk] at hv
    obtain ⟨u, hu, hr⟩ := h.get _ a ha
    rw [hv] at hu; cases hu; exact hr
  · cases ha
theorem RepsL.nil : RepsL M w [] [] := by unfold RepsL; rfl
theorem RepsL.cons {a : AV} {v : Value} {xs : List AV} {vs : List Value} (h : Reps M w a v) (k : RepsL M w xs vs) : RepsL M w (a :: xs) (v :: vs) := by unfold RepsL; exact ⟨v, vs, rfl, h, k⟩
theorem RepsL.one {a : AV} {v : Value} (h : Reps M w a v) : RepsL M w [a] [v] := RepsL.cons h RepsL.nil
theorem RepsL.replicate {a : AV} {v : Value} (h : Reps M w a v) : ∀ n, RepsL M w (List.replicate n a) (List.replicate n v)
  | 0 => RepsL.nil
  | n + 1 => RepsL.cons h (RepsL.replicate h n)

/-- A value of one cell. -/
def AV.one : AV → Bool
  | .any | .und | .agg _ | .tup _ => false
  | _ => true
theorem Reps.one {a : AV} {v : Value} (h : Reps M w a v) (ha : a.one = true) : v.oneCell' = true := by
  cases a <;> simp [AV.one] at ha <;> unfold Reps at h
  case int => subst h; rfl
  case bool => subst h; rfl
  case str => obtain ⟨rfl, _⟩ := h; rfl
  case nilp => subst h; rfl
  case ptr => obtain ⟨_, _, rfl⟩ := h; rfl
  case epr => obtain ⟨_, _, _, rfl, _⟩ := h; rfl
  case nils => subst h; rfl
  case sl => obtain ⟨_, _, _, rfl, _⟩ := h; rfl
  case row => obtain ⟨_, _, rfl, _⟩ := h; rfl
  case buf => obtain ⟨_, _, rfl, _⟩ := h; rfl
  case nilm => subst h; rfl
  case map => obtain ⟨_, _, rfl⟩ := h; rfl
  case fn => obtain ⟨_, _, rfl, _⟩ := h; rfl
  case iface => obtain ⟨_, rfl, _⟩ := h; rfl
  case nili => subst h; rfl
def AV.cells : AV → List AV
  | .agg cs => cs
  | a => [a]
theorem Reps.cells {a : AV} {v : Value} (h : Reps M w a v) (ha : a.one = true ∨ ∃ cs, a = .agg cs) : RepsL M w a.cells v.cells.toList := by
  rcases ha with ha | ⟨cs, rfl⟩
  · have h1 := h.one ha
    have h2 : v.cells = #[v] := by cases v <;> simp [Value.oneCell'] at h1 <;> rfl
    have h3 : a.cells = [a] := by cases a <;> simp [AV.one] at ha <;> rfl
    rw [h2, h3]
    exact RepsL.one h
  · unfold Reps at h
    obtain ⟨vs, rfl, h2⟩ := h
    exact h2

/-! ### The store -/
def alook {α : Type} : List (Int × α) → Int → Option α
  | [], _ => none
  | (k, v) :: r, id => if k = id then some v else alook r id
def aset {α : Type} : List (Int × α) → Int → α → List (Int × α)
  | [], _, _ => []
  | (k, v) :: r, id, x => if k = id then (k, x) :: r else (k, v) :: aset r id x
theorem alook_aset {α : Type} : ∀ (l : List (Int × α)) (id id' : Int) (x : α), alook (aset l id x) id' = if id = id' then (alook l id).map (fun _ => x) else alook l id'
  | [], id, id', x => by simp [aset, alook]
  | (k, v) :: r, id, id', x => by
    unfold aset
    by_cases hk : k = id
    · subst hk
      rw [if_pos rfl]
      by_cases h : k = id'
      · simp [alook, h]
      · simp [alook, h]
    · rw [if_neg hk]
      simp only [alook]
      rw [alook_aset r id id' x]
      by_cases h : id = id'
      · subst h; simp [hk]
      · by_cases h2 : k = id' <;> simp [h, h2]
structure ASt where
  objs : List (Int × List AV)
  toks : List (Int × Nat)
  next : Int

/-- A block of which no cell is frozen, of so many cells at least. -/
def Room (w : World) (b ce : Nat) : Prop := ∃ (vs : Array Value) (ty : TypeId), w.heap[b]? = some (.cells vs ty (0, 0)) ∧ ce ≤ vs.size
theorem Room.cell {w : World} {b ce : Nat} (h : Room w b ce) (j : Nat) (hj : j < ce) : (w.cell? ⟨b, j, none⟩).isSome = true ∧ w.frozen? ⟨b, j, none⟩ = false := by
  obtain ⟨vs, ty, h1, h2⟩ := h
  refine ⟨?_, by simp only [World.frozen?, h1]; simp⟩
  simp only [World.cell?, h1, Option.isSome_none, Bool.false_eq_true, if_false]
  rw [Array.getElem?_eq_getElem (by omega)]; rfl
theorem Room.heap {w w' : World} {b ce : Nat} (h : Room w b ce) (hB : w'.heap[b]? = w.heap[b]?) : Room w' b ce := by
  obtain ⟨vs, ty, h1, h2⟩ := h
  exact ⟨vs, ty, by rw [hB]; exact h1, h2⟩
structure St (base : Nat) (Fi : Int → Prop) (M : MM) (w : World) (σ : ASt) : Prop where
  base_le : base ≤ w.heap.size
  obs : ∀ id cells, alook σ.objs id = some cells → (¬ Fi id ∧ ¬ M.fz id) ∧ ∃ (b : Nat) (vs : Array Value) (e : TypeId), M.ob id = some b ∧ base ≤ b ∧ w.heap[b]? = some (.cells vs e (0, 0)) ∧ RepsL M w cells vs.toList
  tks : ∀ id top, alook σ.toks id = some top → ¬ Fi id ∧ ∃ T, M.tk id = some T ∧ T.top = top ∧ ∀ b e ce, T.blk = some (b, e, ce) → base ≤ b ∧ Room w b ce
  inj : ∀ id id' b, M.ob id = some b → M.ob id' = some b → id = id'
  dis : ∀ id id' b T e ce, M.ob id = some b → M.tk id' = some T → T.blk ≠ some (b, e, ce)
  tinj : ∀ id id' T T' b e ce e' ce', M.tk id = some T → M.tk id' = some T' → T.blk = some (b, e, ce) → T'.blk = some (b, e', ce') → id = id'
  obsz : ∀ id b, M.ob id = some b → b < w.heap.size
  tksz : ∀ id T b e ce, M.tk id = some T → T.blk = some (b, e, ce) → b < w.heap.size
  fresh : ∀ id, σ.next ≤ id → M.ob id = none ∧ M.tk id = none ∧ ¬ Fi id ∧ ¬ M.fz id

/-- A state of the abstract machine stands for a frame and a world. -/
def Rel (base : Nat) (Fi : Int → Prop) (M : MM) (a : Act) (w : World) (sl : List AV) (σ : ASt) : Prop := a.defers = [] ∧ RepsL M w sl a.tmps.toList ∧ St base Fi M w σ
def Lift (Q : Exit → List AV → ASt → Prop) (base : Nat) (Fi : Int → Prop) (M : MM) (w : World) : Exit → Act → World → Prop := fun e a' w' => ∃ sl' σ' M', Q e sl' σ' ∧ Rel base Fi M' a' w' sl' σ' ∧ Stp base Fi M w M' w'
theorem Lift.stp {Q : Exit → List AV → ASt → Prop} {a : Act} {e : Exit} (h : Stp base Fi M w M' w') {w2 : World} (l : Lift Q base Fi M' w' e a w2) : Lift Q base Fi M w e a w2 := by
  obtain ⟨sl, σ, M2, h1, h2, h3⟩ := l
  exact ⟨sl, σ, M2, h1, h2, h.trans h3⟩
end Go.Proofs.Ytnjkklkjlloedaa
