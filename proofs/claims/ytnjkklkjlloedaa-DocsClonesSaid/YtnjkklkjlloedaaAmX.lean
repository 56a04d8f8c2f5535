/- The abstract machine: values, stores, control, operations, objects, slices, calls. -/
import Derived.Test.YtnjkklkjlloedaaW
import Derived.MapKept
import Derived.Laws.CopyRow
import Derived.Lib.SlBytesConst
import Derived.Laws.IdiomStrings
/-! An abstract machine over the operations: values without addresses, capacities and orders; what its states stand for. -/
namespace Go.Proofs.Ytnjkklkjlloedaa
open Go.RowKit
set_option linter.unusedVariables false
set_option linter.unusedSimpArgs false

/-- What is known of a slice's room behind its end. -/
inductive AOwn where
  | none
  | full
  | tok (id : Int) (top sz : Nat)

/-- A value, without its addresses. -/
inductive AV where
  | any
  | und
  | int (k : IntKind) (n : Int)
  | bool (b : Bool)
  | str (s : List UInt8)
  | nilp
  | ptr (id : Int) (off : Nat)
  | epr (cells : List AV) (off : Nat)
  | nils
  | sl (own : AOwn) (cells : List AV) (n : Nat)
  | row (id : Int) (off n : Nat)
  | buf (id : Int) (off n c : Nat)
  | nilm
  | map (id : Int)
  | fn (f : FuncId) (first captured : List AV)
  | iface (t : TypeId) (v : AV)
  | nili
  | agg (cs : List AV)
  | tup (cs : List AV)

/-- A buffer that one may append to: an element's cells, the number of elements ahead of its end, its block, the end's cell, the room's end. -/
structure Tk where
  sz : Nat
  top : Nat
  blk : Option (Nat × Nat × Nat)

/-- Where the objects and buffers lie. -/
structure MM where
  ob : Int → Option Nat
  tk : Int → Option Tk
  fz : Int → Prop

/-- A cell that never turns. -/
def stab (M : MM) (b j : Nat) : Prop := (∀ id, M.ob id = some b → M.fz id) ∧ ∀ id T e ce, M.tk id = some T → T.blk = some (b, e, ce) → j < e
def Mem (M : MM) (w : World) (b o : Nat) (vs : List Value) : Prop := ∀ j u, vs[j]? = some u → w.cell? ⟨b, o + j, none⟩ = some u ∧ stab M b (o + j)
def OwnOk (M : MM) (own : AOwn) (A : Option Addr) (n c k : Nat) : Prop :=
  match own with
  | .none => True
  | .full => c = n
  | .tok id top sz => ∃ T, M.tk id = some T ∧ T.sz = sz ∧ top ≤ T.top ∧ k = n * T.sz ∧ (top = T.top → match T.blk with
    | none => c = n
    | some (b, e, ce) => ∃ o, A = some ⟨b, o, none⟩ ∧ o + k = e ∧ o + c * T.sz = ce)

mutual
def Reps (M : MM) (w : World) : AV → Value → Prop
  | .any, _ => True
  | .und, v => v = undef
  | .int k n, v => v = .int k n
  | .bool b, v => v = .bool b
  | .str s, v => v = .string ⟨s.toArray⟩ ∧ s.length ≤ maxLen
  | .nilp, v => v = .pointer none
  | .ptr id off, v => ∃ b, M.ob id = some b ∧ v = .pointer (some ⟨b, off, none⟩)
  | .epr cells off, v => ∃ b o vs, v = .pointer (some ⟨b, o + off, none⟩) ∧ Mem M w b o vs ∧ RepsL M w cells vs
  | .nils, v => v = .slice none 0 0
  | .sl own cells n, v => ∃ A c vs, v = .slice A n c ∧ n ≤ c ∧ c ≤ maxLen ∧ (A = none → c = 0) ∧ (n = 0 ∨ ∃ b o, A = some ⟨b, o, none⟩ ∧ Mem M w b o vs) ∧ RepsL M w cells vs ∧ (n = 0 → cells = []) ∧ OwnOk M own A n c cells.length
  | .row id off n, v => ∃ b, M.ob id = some b ∧ v = .slice (some ⟨b, off, none⟩) n n ∧ n ≤ maxLen
  | .buf id off n c, v => ∃ b, M.ob id = some b ∧ v = .slice (some ⟨b, off, none⟩) n c ∧ n ≤ c ∧ c ≤ maxLen
  | .nilm, v => v = .map none
  | .map id, v => ∃ b, M.ob id = some b ∧ v = .map (some b)
  | .fn f first captured, v => ∃ fs cs, v = .func (.func f) fs cs ∧ RepsL M w first fs.toList ∧ RepsL M w captured cs.toList
  | .iface t a, v => ∃ u, v = .iface t u ∧ Reps M w a u
  | .nili, v => v = .nilIface
  | .agg cs, v => ∃ vs : Array Value, v = .agg vs ∧ RepsL M w cs vs.toList
  | .tup cs, v => ∃ vs : Array Value, v = .tuple vs ∧ RepsL M w cs vs.toList
def RepsL (M : MM) (w : World) : List AV → List Value → Prop
  | [], vs => vs = []
  | a :: r, vs => ∃ v vr, vs = v :: vr ∧ Reps M w a v ∧ RepsL M w r vr
end

/-- From one world to a later one: what never turns has not turned. -/
structure Stp (base : Nat) (Fi : Int → Prop) (M : MM) (w : World) (M' : MM) (w' : World) : Prop where
  os : w'.os = w.os
  tape : w'.tape = w.tape
  output : w'.output = w.output
  size : w.heap.size ≤ w'.heap.size
  below : ∀ k, k < base → w'.heap[k]? = w.heap[k]?
  ob : ∀ id b, M.ob id = some b → M'.ob id = some b
  tk : ∀ id T, M.tk id = some T → ∃ T', M'.tk id = some T' ∧ T'.sz = T.sz ∧ (T' = T ∨ (T.top < T'.top ∧ ¬ Fi id))
  cell : ∀ b j v, stab M b j → w.cell? ⟨b, j, none⟩ = some v → w'.cell? ⟨b, j, none⟩ = some v ∧ stab M' b j
  fob : ∀ id b, Fi id → M.ob id = some b → w'.heap[b]? = w.heap[b]?
  ffz : ∀ id, Fi id → M'.fz id → M.fz id
  ftk : ∀ id T b e ce, Fi id → M.tk id = some T → T.blk = some (b, e, ce) → w'.heap[b]? = w.heap[b]?

variable {base : Nat} {Fi : Int → Prop} {M M' M'' : MM} {w w' w'' : World}

theorem Stp.refl (base : Nat) (Fi : Int → Prop) (M : MM) (w : World) : Stp base Fi M w M w :=
  ⟨rfl, rfl, rfl, Nat.le_refl _, fun _ _ => rfl, fun _ _ h => h, fun _ T h => ⟨T, h, rfl, .inl rfl⟩, fun _ _ _ h h' => ⟨h', h⟩, fun _ _ _ _ => rfl, fun _ _ h => h, fun _ _ _ _ _ _ _ _ => rfl⟩
theorem Stp.trans (h : Stp base Fi M w M' w') (k : Stp base Fi M' w' M'' w'') : Stp base Fi M w M'' w'' := by
  refine ⟨k.os.trans h.os, k.tape.trans h.tape, k.output.trans h.output, Nat.le_trans h.size k.size, fun i hi => (k.below i hi).trans (h.below i hi), fun id b hb => k.ob _ _ (h.ob _ _ hb), ?_, ?_, ?_, fun id hf hz => h.ffz id hf (k.ffz id hf hz), ?_⟩
  · intro id T hT
    obtain ⟨T', h1, h2, h3⟩ := h.tk id T hT
    obtain ⟨T'', k1, k2, k3⟩ := k.tk id T' h1
    refine ⟨T'', k1, k2.trans h2, ?_⟩
    rcases h3 with rfl | ⟨h3, hf⟩
    · exact k3
    · rcases k3 with rfl | ⟨k3, _⟩
      · exact .inr ⟨h3, hf⟩
      · exact .inr ⟨Nat.lt_trans h3 k3, hf⟩
  · intro b j v hs hc
    obtain ⟨h1, h2⟩ := h.cell b j v hs hc
    exact k.cell b j v h2 h1
  · intro id b hf hb
    exact (k.fob id b hf (h.ob _ _ hb)).trans (h.fob id b hf hb)
  · intro id T b e ce hf hT hb
    obtain ⟨T', h1, _, h3⟩ := h.tk id T hT
    rcases h3 with rfl | ⟨_, hn⟩
    · exact (k.ftk id T' b e ce hf h1 hb).trans (h.ftk id T' b e ce hf hT hb)
    · exact absurd hf hn

theorem Mem.stp (h : Stp base Fi M w M' w') {b o : Nat} {vs : List Value} (m : Mem M w b o vs) : Mem M' w' b o vs := fun j u hu => h.cell b (o + j) u (m j u hu).2 (m j u hu).1
theorem OwnOk.stp (h : Stp base Fi M w M' w') {own : AOwn} {A : Option Addr} {n c k : Nat} (m : OwnOk M own A n c k) : OwnOk M' own A n c k := by
  cases own with
  | none => trivial
  | full => exact m
  | tok id top sz =>
    obtain ⟨T, h1, h0, h2, h3, h4⟩ := m
    obtain ⟨T', k1, k2, k3⟩ := h.tk id T h1
    refine ⟨T', k1, by rw [k2]; exact h0, ?_, by rw [k2]; exact h3, ?_⟩
    · rcases k3 with rfl | ⟨k3, _⟩
      · exact h2
      · omega
    · rcases k3 with rfl | ⟨k3, _⟩
      · exact h4
      · intro e; omega

mutual
theorem Reps.stp (h : Stp base Fi M w M' w') : ∀ (a : AV) (v : Value), Reps M w a v → Reps M' w' a v
  | .any, _, _ => by unfold Reps; trivial
  | .und, _, r => by unfold Reps at r ⊢; exact r
  | .int _ _, _, r => by unfold Reps at r ⊢; exact r
  | .bool _, _, r => by unfold Reps at r ⊢; exact r
  | .str _, _, r => by unfold Reps at r ⊢; exact r
  | .nilp, _, r => by unfold Reps at r ⊢; exact r
  | .ptr id off, _, r => by
    unfold Reps at r ⊢
    obtain ⟨b, h1, h2⟩ := r
    exact ⟨b, h.ob _ _ h1, h2⟩
  | .epr cells off, _, r => by
    unfold Reps at r ⊢
    obtain ⟨b, o, vs, h1, h2, h3⟩ := r
    exact ⟨b, o, vs, h1, h2.stp h, RepsL.stp h cells vs h3⟩
  | .nils, _, r => by unfold Reps at r ⊢; exact r
  | .sl own cells n, _, r => by
    unfold Reps at r ⊢
    obtain ⟨A, c, vs, h1, h2, h3, h4, h5, h6, h7, h8⟩ := r
    exact ⟨A, c, vs, h1, h2, h3, h4, h5.imp id fun ⟨b, o, hA, hm⟩ => ⟨b, o, hA, hm.stp h⟩, RepsL.stp h cells vs h6, h7, h8.stp h⟩
  | .buf id off n c, _, r => by
    unfold Reps at r ⊢
    obtain ⟨b, h1, h2⟩ := r
    exact ⟨b, h.ob _ _ h1, h2⟩
  | .row id off n, _, r => by
    unfold Reps at r ⊢
    obtain ⟨b, h1, h2⟩ := r
    exact ⟨b, h.ob _ _ h1, h2⟩
  | .nilm, _, r => by unfold Reps at r ⊢; exact r
  | .map id, _, r => by
    unfold Reps at r ⊢
    obtain ⟨b, h1, h2⟩ := r
    exact ⟨b, h.ob _ _ h1, h2⟩
  | .fn f first captured, _, r => by
    unfold Reps at r ⊢
    obtain ⟨fs, cs, h1, h2, h3⟩ := r
    exact ⟨fs, cs, h1, RepsL.stp h first _ h2, RepsL.stp h captured _ h3⟩
  | .iface t a, _, r => by
    unfold Reps at r ⊢
    obtain ⟨u, h1, h2⟩ := r
    exact ⟨u, h1, Reps.stp h a u h2⟩
  | .nili, _, r => by unfold Reps at r ⊢; exact r
  | .agg cs, _, r => by
    unfold Reps at r ⊢
    obtain ⟨vs, h1, h2⟩ := r
    exact ⟨vs, h1, RepsL.stp h cs _ h2⟩
  | .tup cs, _, r => by
    unfold Reps at r ⊢
    obtain ⟨vs, h1, h2⟩ := r
    exact ⟨vs, h1, RepsL.stp h cs _ h2⟩
theorem RepsL.stp (h : Stp base Fi M w M' w') : ∀ (xs : List AV) (vs : List Value), RepsL M w xs vs → RepsL M' w' xs vs
  | [], _, r => by unfold RepsL at r ⊢; exact r
  | a :: r, vs, hr => by
    unfold RepsL at hr ⊢
    obtain ⟨v, vr, h1, h2, h3⟩ := hr
    exact ⟨v, vr, h1, Reps.stp h a v h2, RepsL.stp h r vr h3⟩
end

/-! ### Rows of values -/
theorem RepsL.length : ∀ {xs : List AV} {vs : List Value}, RepsL M w xs vs → vs.length = xs.length
  | [], _, r => by unfold RepsL at r; subst r; rfl
  | a :: r, vs, hr => by
    unfold RepsL at hr
    obtain ⟨v, vr, rfl, _, h3⟩ := hr
    simp [h3.length]
theorem RepsL.get : ∀ {xs : List AV} {vs : List Value} (j : Nat) (a : AV), RepsL M w xs vs → xs[j]? = some a → ∃ v, vs[j]? = some v ∧ Reps M w a v
  | [], _, j, a, _, h => by simp at h
  | b :: r, vs, j, a, hr, h => by
    unfold RepsL at hr
    obtain ⟨v, vr, rfl, h2, h3⟩ := hr
    cases j with
    | zero => simp at h; subst h; exact ⟨v, rfl, h2⟩
    | succ j => exact h3.get j a (by simpa using h)
theorem RepsL.of_get : ∀ {xs : List AV} {vs : List Value}, vs.length = xs.length → (∀ (j : Nat) (a : AV) (v : Value), xs[j]? = some a → vs[j]? = some v → Reps M w a v) → RepsL M w xs vs
  | [], vs, hl, _ => by unfold RepsL; exact List.eq_nil_of_length_eq_zero (by simpa using hl)
  | a :: r, vs, hl, h => by
    match vs, hl with
    | v :: vr, hl =>
      unfold RepsL
      exact ⟨v, vr, rfl, h 0 a v rfl rfl, RepsL.of_get (by simpa using hl) fun j a' v' ha hv => h (j + 1) a' v' (by simpa using ha) (by simpa using hv)⟩
theorem RepsL.set {xs : List AV} {vs : List Value} (h : RepsL M w xs vs) (j : Nat) {a : AV} {v : Value} (r : Reps M w a v) : RepsL M w (xs.set j a) (vs.set j v) := by
  have hl := h.length
  refine RepsL.of_get (by simp [hl]) fun i a' v' ha hv => ?_
  rw [List.getElem?_set] at ha hv
  by_cases hij : j = i
  · subst hij
    rw [if_pos rfl] at ha hv
    split at ha
    · rw [if_pos (by omega)] at hv; cases ha; cases hv; exact r
    · cases ha
  · rw [if_neg hij] at ha hv
    obtain ⟨u, hu, hr⟩ := h.get i a' ha
    rw [hv] at hu; cases hu; exact hr
theorem RepsL.append {xs bs : List AV} {vs us : List Value} (h : RepsL M w xs vs) (k : RepsL M w bs us) : RepsL M w (xs ++ bs) (vs ++ us) := by
  have hl := h.length
  refine RepsL.of_get (by simp [h.length, k.length]) fun i a v ha hv => ?_
  by_cases hi : i < xs.length
  · rw [List.getElem?_append_left hi] at ha
    rw [List.getElem?_append_left (by omega)] at hv
    obtain ⟨u, hu, hr⟩ := h.get i a ha
    rw [hv] at hu; cases hu; exact hr
  · rw [List.getElem?_append_right (by omega)] at ha
    rw [List.getElem?_append_right (by omega), hl] at hv
    obtain ⟨u, hu, hr⟩ := k.get _ a ha
    rw [hv] at hu; cases hu; exact hr
theorem RepsL.drop {xs : List AV} {vs : List Value} (h : RepsL M w xs vs) (k : Nat) : RepsL M w (xs.drop k) (vs.drop k) := by
  have hl := h.length
  refine RepsL.of_get (by simp [h.length]) fun i a v ha hv => ?_
  rw [List.getElem?_drop] at ha hv
  obtain ⟨u, hu, hr⟩ := h.get _ a ha
  rw [hv] at hu; cases hu; exact hr
theorem RepsL.take {xs : List AV} {vs : List Value} (h : RepsL M w xs vs) (k : Nat) : RepsL M w (xs.take k) (vs.take k) := by
  have hl := h.length
  refine RepsL.of_get (by simp [h.length]) fun i a v ha hv => ?_
  rw [List.getElem?_take] at ha hv
  split at ha
  · rename_i hk
    rw [if_pos hk] at hv
    obtain ⟨u, hu, hr⟩ := h.get _ a ha
    rw [hv] at hu; cases hu; exact hr
  · cases ha
theorem RepsL.nil : RepsL M w [] [] := by unfold RepsL; rfl
theorem RepsL.cons {a : AV} {v : Value} {xs : List AV} {vs : List Value} (h : Reps M w a v) (k : RepsL M w xs vs) : RepsL M w (a :: xs) (v :: vs) := by unfold RepsL; exact ⟨v, vs, rfl, h, k⟩
theorem RepsL.one {a : AV} {v : Value} (h : Reps M w a v) : RepsL M w [a] [v] := RepsL.cons h RepsL.nil
theorem RepsL.replicate {a : AV} {v : Value} (h : Reps M w a v) : ∀ n, RepsL M w (List.replicate n a) (List.replicate n v)
  | 0 => RepsL.nil
  | n + 1 => RepsL.cons h (RepsL.replicate h n)

/-- A value of one cell. -/
def AV.one : AV → Bool
  | .any | .und | .agg _ | .tup _ => false
  | _ => true
theorem Reps.one {a : AV} {v : Value} (h : Reps M w a v) (ha : a.one = true) : v.oneCell' = true := by
  cases a <;> simp [AV.one] at ha <;> unfold Reps at h
  case int => subst h; rfl
  case bool => subst h; rfl
  case str => obtain ⟨rfl, _⟩ := h; rfl
  case nilp => subst h; rfl
  case ptr => obtain ⟨_, _, rfl⟩ := h; rfl
  case epr => obtain ⟨_, _, _, rfl, _⟩ := h; rfl
  case nils => subst h; rfl
  case sl => obtain ⟨_, _, _, rfl, _⟩ := h; rfl
  case row => obtain ⟨_, _, rfl, _⟩ := h; rfl
  case buf => obtain ⟨_, _, rfl, _⟩ := h; rfl
  case nilm => subst h; rfl
  case map => obtain ⟨_, _, rfl⟩ := h; rfl
  case fn => obtain ⟨_, _, rfl, _⟩ := h; rfl
  case iface => obtain ⟨_, rfl, _⟩ := h; rfl
  case nili => subst h; rfl
def AV.cells : AV → List AV
  | .agg cs => cs
  | a => [a]
theorem Reps.cells {a : AV} {v : Value} (h : Reps M w a v) (ha : a.one = true ∨ ∃ cs, a = .agg cs) : RepsL M w a.cells v.cells.toList := by
  rcases ha with ha | ⟨cs, rfl⟩
  · have h1 := h.one ha
    have h2 : v.cells = #[v] := by cases v <;> simp [Value.oneCell'] at h1 <;> rfl
    have h3 : a.cells = [a] := by cases a <;> simp [AV.one] at ha <;> rfl
    rw [h2, h3]
    exact RepsL.one h
  · unfold Reps at h
    obtain ⟨vs, rfl, h2⟩ := h
    exact h2

/-! ### The store -/
def alook {α : Type} : List (Int × α) → Int → Option α
  | [], _ => none
  | (k, v) :: r, id => if k = id then some v else alook r id
def aset {α : Type} : List (Int × α) → Int → α → List (Int × α)
  | [], _, _ => []
  | (k, v) :: r, id, x => if k = id then (k, x) :: r else (k, v) :: aset r id x
theorem alook_aset {α : Type} : ∀ (l : List (Int × α)) (id id' : Int) (x : α), alook (aset l id x) id' = if id = id' then (alook l id).map (fun _ => x) else alook l id'
  | [], id, id', x => by simp [aset, alook]
  | (k, v) :: r, id, id', x => by
    unfold aset
    by_cases hk : k = id
    · subst hk
      rw [if_pos rfl]
      by_cases h : k = id'
      · simp [alook, h]
      · simp [alook, h]
    · rw [if_neg hk]
      simp only [alook]
      rw [alook_aset r id id' x]
      by_cases h : id = id'
      · subst h; simp [hk]
      · by_cases h2 : k = id' <;> simp [h, h2]
mutual
/-- A value that names no object and no buffer. -/
def AV.shut : AV → Bool
  | .ptr _ _ | .row _ _ _ | .buf _ _ _ _ | .map _ => false
  | .sl (.tok _ _ _) _ _ => false
  | .sl _ cells _ => AV.shutL cells
  | .epr cells _ => AV.shutL cells
  | .fn _ a b => AV.shutL a && AV.shutL b
  | .iface _ a => a.shut
  | .agg cs => AV.shutL cs
  | .tup cs => AV.shutL cs
  | _ => true
def AV.shutL : List AV → Bool
  | [] => true
  | a :: r => a.shut && AV.shutL r
end
/-- A key's cell; a key. -/
inductive KTy where
  | int (k : IntKind)
  | str
inductive KSh where
  | one (t : KTy)
  | row (ts : List KTy)
  /-- a map that lies at block mb, whose entries were born at bs -/
  | st (sh : KSh) (mb : Nat) (bs : List Nat) (clock : Nat)
  /-- no map: a range over the map at block mb -/
  | itr (mb since : Nat) (seen : List Nat) (last : Nat)
def KTy.fit : KTy → AV → Bool
  | .int k, .int k' n => decide (k' = k) && (Lit.int k n).wf
  | .str, .str _ => true
  | _, _ => false
def KTy.fits : List KTy → List AV → Bool
  | [], [] => true
  | t :: ts, a :: ax => t.fit a && KTy.fits ts ax
  | _, _ => false
def KSh.fit : KSh → AV → Bool
  | .one t, a => t.fit a
  | .row ts, .agg cs => KTy.fits ts cs
  | .st sh _ _ _, a => sh.fit a
  | _, _ => false
theorem KTy.shut {t : KTy} {a : AV} (h : t.fit a = true) : a.shut = true := by
  cases t <;> cases a <;> simp_all [KTy.fit, AV.shut]
theorem KTy.shuts : ∀ {ts : List KTy} {ax : List AV}, KTy.fits ts ax = true → AV.shutL ax = true
  | [], [], _ => rfl
  | t :: ts, a :: ax, h => by
    simp only [KTy.fits, Bool.and_eq_true] at h
    simp only [AV.shutL, KTy.shut h.1, KTy.shuts h.2, Bool.and_self]
theorem KSh.shut {t : KSh} {a : AV} (h : t.fit a = true) : a.shut = true := by
  induction t with
  | one t => exact KTy.shut h
  | row ts =>
    cases a <;> simp only [KSh.fit, Bool.false_eq_true] at h
    exact KTy.shuts h
  | st sh _ _ _ ih => exact ih h
  | itr => simp [KSh.fit] at h
/-- What is known of a buffer: how far it is full; of a map: its entries. -/
inductive Tq where
  | top (n : Nat)
  | mp (sh : KSh) (kvs : List (AV × AV))
instance : Coe Nat Tq := ⟨.top⟩
structure ASt where
  objs : List (Int × List AV)
  toks : List (Int × Tq)
  next : Int
/-- A map's entries stand for these. -/
def MapRel (M : MM) (w : World) (sh : KSh) (kvs : List (AV × AV)) (es : List MapEntry) : Prop :=
  es.length = kvs.length ∧ ∀ (i : Nat) (p : AV × AV) (e : MapEntry), kvs[i]? = some p → es[i]? = some e → Reps M w p.1 e.key ∧ Reps M w p.2 e.val ∧ sh.fit p.1 = true ∧ p.2.shut = true
/-- Is an object no row of cells? -/
def NoRow (o : Obj) : Prop := ∀ vs e fr, o ≠ .cells vs e fr
/-- What a map's block holds, or a range's. -/
def MapIs (M : MM) (w : World) (kvs : List (AV × AV)) (b : Nat) (o : Obj) : KSh → Prop
  | .st sh mb bs clock => b = mb ∧ ∃ es : Array MapEntry, o = .map es clock ∧ MapKept.Stamped es clock ∧ MapRel M w sh kvs es.toList ∧ es.toList.map MapEntry.born = bs
  | .itr mb since seen last => kvs = [] ∧ o = .mapIter (some mb) since seen.toArray last
  | sh => ∃ (es : Array MapEntry) (clock : Nat) (kvs0 : List (AV × AV)), o = .map es clock ∧ MapKept.Stamped es clock ∧ MapRel M w sh kvs0 es.toList ∧ kvs0.Perm kvs
theorem MapIs.noRow {sh : KSh} {kvs : List (AV × AV)} {b : Nat} {o : Obj} (h : MapIs M w kvs b o sh) : NoRow o := by
  intro vs e fr
  cases sh <;> simp only [MapIs] at h
  · obtain ⟨_, _, _, rfl, _⟩ := h; exact fun h => by cases h
  · obtain ⟨_, _, _, rfl, _⟩ := h; exact fun h => by cases h
  · obtain ⟨_, _, rfl, _⟩ := h; exact fun h => by cases h
  · obtain ⟨_, rfl⟩ := h; exact fun h => by cases h
def MapAt (base : Nat) (M : MM) (w : World) (id : Int) (sh : KSh) (kvs : List (AV × AV)) : Prop :=
  ∃ (b : Nat) (o : Obj), M.ob id = some b ∧ base ≤ b ∧ w.heap[b]? = some o ∧ MapIs M w kvs b o sh
theorem MapRel.map {sh : KSh} {kvs : List (AV × AV)} {es : List MapEntry} (h : MapRel M w sh kvs es) (f : ∀ x v, x.shut = true → Reps M w x v → Reps M' w' x v) : MapRel M' w' sh kvs es :=
  ⟨h.1, fun i p e h1 h2 => let ⟨a, b, c, d⟩ := h.2 i p e h1 h2; ⟨f _ _ (KSh.shut c) a, f _ _ d b, c, d⟩⟩
theorem MapIs.map {sh : KSh} {kvs : List (AV × AV)} {b : Nat} {o : Obj} (h : MapIs M w kvs b o sh) (f : ∀ x v, x.shut = true → Reps M w x v → Reps M' w' x v) : MapIs M' w' kvs b o sh := by
  cases sh <;> simp only [MapIs] at h ⊢
  · obtain ⟨es, c, k0, h1, h2, h3, h4⟩ := h; exact ⟨es, c, k0, h1, h2, h3.map f, h4⟩
  · obtain ⟨es, c, k0, h1, h2, h3, h4⟩ := h; exact ⟨es, c, k0, h1, h2, h3.map f, h4⟩
  · obtain ⟨h0, es, h1, h2, h3, h4⟩ := h; exact ⟨h0, es, h1, h2, h3.map f, h4⟩
  · exact h
theorem MapAt.map {id id' : Int} {sh : KSh} {kvs : List (AV × AV)} (h : MapAt base M w id sh kvs) (ho : ∀ b, M.ob id = some b → M'.ob id' = some b) (hh : ∀ b o, M.ob id = some b → w.heap[b]? = some o → NoRow o → w'.heap[b]? = some o) (f : ∀ x v, x.shut = true → Reps M w x v → Reps M' w' x v) : MapAt base M' w' id' sh kvs :=
  let ⟨b, o, h1, h2, h3, h4⟩ := h
  ⟨b, o, ho b h1, h2, hh b o h1 h3 h4.noRow, h4.map f⟩
theorem MapAt.stp {id : Int} {sh : KSh} {kvs : List (AV × AV)} (h : MapAt base M w id sh kvs) (T : Stp base Fi M w M' w') (hh : ∀ b o, M.ob id = some b → w.heap[b]? = some o → NoRow o → w'.heap[b]? = some o) : MapAt base M' w' id sh kvs :=
  h.map (fun b hb => T.ob id b hb) hh fun x v _ r => Reps.stp T x v r

/-- What is marked as frozen: nothing, or what is behind the end. -/
def nfz (n : Nat) (b : Bool) : Nat × Nat := if b = true then (n, n + 1) else (0, 0)
theorem nfz_free (n : Nat) (b : Bool) (j : Nat) (hj : j < n) : ¬ ((nfz n b).1 ≤ j ∧ j < (nfz n b).2) := by
  unfold nfz
  split
  · simp only; omega
  · simp only; omega
/-- A block of which no cell is frozen, of so many cells at least. -/
def Room (w : World) (b ce : Nat) : Prop := ∃ (vs : Array Value) (ty : TypeId), w.heap[b]? = some (.cells vs ty (0, 0)) ∧ ce ≤ vs.size
theorem Room.cell {w : World} {b ce : Nat} (h : Room w b ce) (j : Nat) (hj : j < ce) : (w.cell? ⟨b, j, none⟩).isSome = true ∧ w.frozen? ⟨b, j, none⟩ = false := by
  obtain ⟨vs, ty, h1, h2⟩ := h
  refine ⟨?_, by simp only [World.frozen?, h1]; simp⟩
  simp only [World.cell?, h1, Option.isSome_none, Bool.false_eq_true, if_false]
  rw [Array.getElem?_eq_getElem (by omega)]; rfl
theorem Room.heap {w w' : World} {b ce : Nat} (h : Room w b ce) (hB : w'.heap[b]? = w.heap[b]?) : Room w' b ce := by
  obtain ⟨vs, ty, h1, h2⟩ := h
  exact ⟨vs, ty, by rw [hB]; exact h1, h2⟩
structure St (base : Nat) (Fi : Int → Prop) (M : MM) (w : World) (σ : ASt) : Prop where
  base_le : base ≤ w.heap.size
  obs : ∀ id cells, alook σ.objs id = some cells → (¬ Fi id ∧ ¬ M.fz id) ∧ ∃ (b : Nat) (vs : Array Value) (e : TypeId × Bool), M.ob id = some b ∧ base ≤ b ∧ w.heap[b]? = some (.cells vs e.1 (nfz vs.size e.2)) ∧ RepsL M w cells vs.toList
  tks : ∀ id (top : Nat), alook σ.toks id = some (.top top) → ¬ Fi id ∧ ∃ T, M.tk id = some T ∧ T.top = top ∧ ∀ b e ce, T.blk = some (b, e, ce) → base ≤ b ∧ Room w b ce
  mps : ∀ id sh kvs, alook σ.toks id = some (.mp sh kvs) → (¬ Fi id ∧ ¬ M.fz id) ∧ MapAt base M w id sh kvs
  inj : ∀ id id' b, M.ob id = some b → M.ob id' = some b → id = id'
  dis : ∀ id id' b T e ce, M.ob id = some b → M.tk id' = some T → T.blk ≠ some (b, e, ce)
  tinj : ∀ id id' T T' b e ce e' ce', M.tk id = some T → M.tk id' = some T' → T.blk = some (b, e, ce) → T'.blk = some (b, e', ce') → id = id'
  obsz : ∀ id b, M.ob id = some b → b < w.heap.size
  tksz : ∀ id T b e ce, M.tk id = some T → T.blk = some (b, e, ce) → b < w.heap.size
  fresh : ∀ id, σ.next ≤ id → M.ob id = none ∧ M.tk id = none ∧ ¬ Fi id ∧ ¬ M.fz id

/-- A state of the abstract machine stands for a frame and a world. -/
def Rel (base : Nat) (Fi : Int → Prop) (M : MM) (a : Act) (w : World) (sl : List AV) (σ : ASt) : Prop := a.defers = [] ∧ RepsL M w sl a.tmps.toList ∧ St base Fi M w σ
def Lift (Q : Exit → List AV → ASt → Prop) (base : Nat) (Fi : Int → Prop) (M : MM) (w : World) : Exit → Act → World → Prop := fun e a' w' => ∃ sl' σ' M', Q e sl' σ' ∧ Rel base Fi M' a' w' sl' σ' ∧ Stp base Fi M w M' w'
theorem Lift.stp {Q : Exit → List AV → ASt → Prop} {a : Act} {e : Exit} (h : Stp base Fi M w M' w') {w2 : World} (l : Lift Q base Fi M' w' e a w2) : Lift Q base Fi M w e a w2 := by
  obtain ⟨sl, σ, M2, h1, h2, h3⟩ := l
  exact ⟨sl, σ, M2, h1, h2, h.trans h3⟩
end Go.Proofs.Ytnjkklkjlloedaa
/-! The abstract machine: rules for control, and for operations that turn no memory. -/
namespace Go.Proofs.Ytnjkklkjlloedaa
open Go.RowKit
set_option linter.unusedVariables false
set_option linter.unusedSimpArgs false

/-! ### Types -/
class TySl (P : Program) (t : TypeId) (e : outParam TypeId) (sz bytes : outParam Nat) : Prop where
  und : P.underlying t = some (.slice e)
  info : ∃ i z, P.info? e = some i ∧ i.zero = some z ∧ i.size = sz ∧ i.bytes = bytes ∧ z.cells.size = sz
  pos : 0 < sz
class TyInt (P : Program) (t : TypeId) (k : outParam IntKind) : Prop where
  und : P.underlying t = some (.int k)
class TyStr (P : Program) (t : TypeId) : Prop where
  und : P.underlying t = some .string
class TyBool (P : Program) (t : TypeId) : Prop where
  und : P.underlying t = some .bool
class TyPtr (P : Program) (t : TypeId) : Prop where
  und : ∃ e, P.underlying t = some (.pointer e)
class TyMap (P : Program) (t : TypeId) (k e : outParam TypeId) : Prop where
  und : P.underlying t = some (.map k e)
class TyIface (P : Program) (t : TypeId) : Prop where
  und : ∃ ms, P.underlying t = some (.interface ms)
/-- A type that is no interface. -/
class TyConc (P : Program) (t : TypeId) : Prop where
  und : ∃ d, P.underlying t = some d ∧ ∀ ms, d ≠ .interface ms
def aggD : TypeDesc → Bool
  | .struct _ => true
  | .array _ _ => true
  | _ => false
/-- A type of one cell, or a struct or array of so many. -/
class TyVar (P : Program) (t : TypeId) (agg : outParam Bool) (sz : outParam Nat) : Prop where
  und : ∃ d, P.underlying t = some d ∧ agg = aggD d
  size : ∃ i, P.info? t = some i ∧ i.size = sz
class TyFld (P : Program) (t : TypeId) (f : Nat) (off : outParam Nat) (ft : outParam TypeId) : Prop where
  und : ∃ fs x, P.underlying t = some (.struct fs) ∧ fs[f]? = some x ∧ x.offset = off ∧ x.type = ft
class TyArr (P : Program) (t : TypeId) (n : outParam Nat) (e : outParam TypeId) : Prop where
  und : P.underlying t = some (.array n e)

theorem TySl.mk' {P : Program} {t e : TypeId} {sz bytes : Nat} {z : Value} (und : P.underlying t = some (.slice e)) (hi : (P.info? e).map (fun i => (i.zero, i.size, i.bytes)) = some (some z, sz, bytes)) (hz : z.cells.size = sz) (pos : 0 < sz) : TySl P t e sz bytes :=
  ⟨und, let ⟨i, a, b, c, d⟩ := info_parts hi; ⟨i, z, a, b, c, d, hz⟩, pos⟩
theorem TyConc.mk' {P : Program} {t : TypeId} {d : TypeDesc} (h : P.underlying t = some d) (h2 : (match d with | .interface _ => false | _ => true) = true) : TyConc P t := ⟨d, h, fun ms e => by subst e; simp at h2⟩
theorem TyVar.mk' {P : Program} {t : TypeId} {d : TypeDesc} {agg : Bool} {sz : Nat} (h : P.underlying t = some d) (h2 : aggD d = agg) (h3 : (P.info? t).map (·.size) = some sz) : TyVar P t agg sz :=
  ⟨⟨d, h, h2.symm⟩, by cases hi : P.info? t with
    | none => rw [hi] at h3; cases h3
    | some i => rw [hi] at h3; exact ⟨i, rfl, by simpa using h3⟩⟩
theorem TyFld.mk' {P : Program} {t : TypeId} {fs : Array Field} {f off : Nat} {ft : TypeId} (h : P.underlying t = some (.struct fs)) (h2 : (fs[f]?).map (fun x => (x.offset, x.type)) = some (off, ft)) : TyFld P t f off ft :=
  ⟨fs, by cases hx : fs[f]? with
    | none => rw [hx] at h2; cases h2
    | some x => rw [hx] at h2; simp at h2; exact ⟨x, h, rfl, h2.1, h2.2⟩⟩

theorem TySl.ei {P : Program} {t e : TypeId} {sz bytes : Nat} [T : TySl P t e sz bytes] : ∃ z, EI P t e z sz bytes := by
  obtain ⟨i, z, h1, h2, h3, h4, h5⟩ := T.info
  exact ⟨z, T.und, ⟨i, h1, h2, h3, h4⟩, h5⟩
theorem TyVar.sizeOf {P : Program} {t : TypeId} {agg : Bool} {sz : Nat} [T : TyVar P t agg sz] (w : World) : (sizeOf t).run P w = .ok sz w := by
  obtain ⟨i, h, rfl⟩ := T.size
  simp [Go.sizeOf, typeInfo, h]
theorem TySl.sizeOf {P : Program} {t e : TypeId} {sz bytes : Nat} [T : TySl P t e sz bytes] (w : World) : (sizeOf e).run P w = .ok sz w := by
  obtain ⟨i, z, h, _, rfl, _⟩ := T.info
  simp [Go.sizeOf, typeInfo, h]
theorem TyVar.isAgg {P : Program} {t : TypeId} {agg : Bool} {sz : Nat} [T : TyVar P t agg sz] (w : World) : (isAgg t).run P w = .ok agg w := by
  obtain ⟨d, h, h2⟩ := T.und
  subst h2
  simp only [Go.isAgg, Sem.run_bind, run_underlying h, Result.andThen_ok]
  cases d <;> rfl

/-! ### Operands -/
def cav : Value → AV
  | .int k n => .int k n
  | .bool b => .bool b
  | .string s => if s.size ≤ 1000000 then .str s.data.toList else .any
  | .pointer none => .nilp
  | .slice none 0 0 => .nils
  | .nilIface => .nili
  | .map none => .nilm
  | _ => .any
def aev (sl : List AV) : Operand → AV
  | .tmp t => sl.getD t .any
  | .const v => cav v
  | .global _ => .any
  | .func f => .fn f [] []
def aput (sl : List AV) (d : Option Tmp) (v : AV) : List AV := match d with | some d => sl.set d v | none => sl

variable {base : Nat} {Fi : Int → Prop} {M M' M'' : MM} {w w' w'' : World}

theorem cav_reps (v : Value) : Reps M w (cav v) v := by
  have H : ∀ (a : AV), a = cav v → Reps M w a v := by
    intro a ha
    unfold cav at ha
    split at ha
    case h_3 s =>
      split at ha <;> subst ha <;> unfold Reps
      · rename_i h; exact ⟨by simp, by simp only [Array.length_toList, maxLen]; have : s.data.size = s.size := rfl; omega⟩
      · trivial
    all_goals (subst ha; unfold Reps; first | rfl | trivial)
  exact H _ rfl
theorem aev_reps {sl : List AV} {a : Act} (h : RepsL M w sl a.tmps.toList) (x : Operand) : Reps M w (aev sl x) (a.eval x) := by
  cases x with
  | tmp t =>
    simp only [aev, Act.eval]
    cases hx : sl[t]? with
    | none => rw [List.getD_eq_getElem?_getD, hx]; unfold Reps; trivial
    | some av =>
      obtain ⟨v, hv, hr⟩ := h.get t av hx
      rw [List.getD_eq_getElem?_getD, hx]
      have : a.tmps.getD t undef = v := by
        rw [Array.getD_eq_getD_getElem?, ← Array.getElem?_toList, hv]; rfl
      rw [this]; exact hr
  | const v => exact cav_reps v
  | global g => unfold aev Reps; trivial
  | func f => unfold aev Reps; exact ⟨#[], #[], rfl, RepsL.nil, RepsL.nil⟩
theorem aput_reps {sl : List AV} {a : Act} (h : RepsL M w sl a.tmps.toList) (d : Option Tmp) {av : AV} {v : Value} (r : Reps M w av v) : RepsL M w (aput sl d av) (a.put d v).tmps.toList := by
  cases d with
  | none => exact h
  | some d =>
    simp only [aput, Act.put, Array.toList_setIfInBounds]
    exact h.set d r

/-! ### Control -/
variable {P : Program} {ops : Array Oper} {r : List Oper} {sl sl' : List AV} {σ σ' : ASt} {Q : Exit → List AV → ASt → Prop}

def AWP (P : Program) (c : Code) (sl : List AV) (σ : ASt) (Q : Exit → List AV → ASt → Prop) : Prop := ∀ base Fi M0 w0 M a w, Stp base Fi M0 w0 M w → Rel base Fi M a w sl σ → c.wp P (Lift Q base Fi M0 w0) a w
def AOPS (P : Program) (ops : Array Oper) (l : List Oper) (sl : List AV) (σ : ASt) (Q : Exit → List AV → ASt → Prop) : Prop := ∀ base Fi M0 w0 M a w, Stp base Fi M0 w0 M w → Rel base Fi M a w sl σ → wpList P ops (Lift Q base Fi M0 w0) l a w

def AThen (P : Program) (c : Code) (Q : Exit → List AV → ASt → Prop) : Exit → List AV → ASt → Prop
  | .normal, sl, σ => AWP P c sl σ Q
  | e, sl, σ => Q e sl σ
def ABlock (id : Nat) (Q : Exit → List AV → ASt → Prop) : Exit → List AV → ASt → Prop
  | .exit i, sl, σ => if i = id then Q .normal sl σ else Q (.exit i) sl σ
  | e, sl, σ => Q e sl σ
def ARound (I : List AV → ASt → Prop) (μ : List AV → ASt → Nat) (n : Nat) (Q : Exit → List AV → ASt → Prop) : Exit → List AV → ASt → Prop
  | .normal, sl, σ => I sl σ ∧ μ sl σ < n
  | e, sl, σ => Q e sl σ

theorem AWP_skip (h : Q .normal sl σ) : AWP P .skip sl σ Q := fun _ _ _ _ M a w hs hr => wp_skip ⟨sl, σ, M, h, hr, hs⟩
theorem AWP_ret (h : Q .ret sl σ) : AWP P .ret sl σ Q := fun _ _ _ _ M a w hs hr => wp_ret ⟨sl, σ, M, h, hr, hs⟩
theorem AWP_exit {i : Nat} (h : Q (.exit i) sl σ) : AWP P (.exit i) sl σ Q := fun _ _ _ _ M a w hs hr => wp_exit ⟨sl, σ, M, h, hr, hs⟩
theorem AWP_label {i : Nat} (h : Q .normal sl σ) : AWP P (.label i) sl σ Q := fun _ _ _ _ M a w hs hr => wp_label ⟨sl, σ, M, h, hr, hs⟩
theorem AWP_goto {i : Nat} (h : Q (.goto i) sl σ) : AWP P (.goto i) sl σ Q := fun _ _ _ _ M a w hs hr => wp_goto ⟨sl, σ, M, h, hr, hs⟩
theorem AWP_seq {x y : Code} (h : AWP P x sl σ (AThen P y Q)) : AWP P (.seq x y) sl σ Q := by
  intro base Fi M0 w0 M a w hs hr
  refine wp_seq (wp_mono (h base Fi M0 w0 M a w hs hr) ?_)
  rintro e a' w' ⟨sl', σ', M', hq, hr', hs'⟩
  cases e with
  | normal => exact hq base Fi M0 w0 M' a' w' hs' hr'
  | _ => exact ⟨sl', σ', M', hq, hr', hs'⟩
theorem AThen_normal {c : Code} (h : AWP P c sl σ Q) : AThen P c Q .normal sl σ := h
theorem AThen_exit {c : Code} {i : Nat} (h : Q (.exit i) sl σ) : AThen P c Q (.exit i) sl σ := h
theorem AThen_goto {c : Code} {i : Nat} (h : Q (.goto i) sl σ) : AThen P c Q (.goto i) sl σ := h
theorem AThen_ret {c : Code} (h : Q .ret sl σ) : AThen P c Q .ret sl σ := h
theorem AWP_block {i : Nat} {c : Code} (h : AWP P c sl σ (ABlock i Q)) : AWP P (.block i c) sl σ Q := by
  intro base Fi M0 w0 M a w hs hr
  refine wp_block (wp_mono (h base Fi M0 w0 M a w hs hr) ?_)
  rintro e a' w' ⟨sl', σ', M', hq, hr', hs'⟩
  cases e with
  | exit j =>
    simp only [ABlock] at hq
    simp only [Exit.inBlock]
    split
    · rename_i hj; rw [if_pos hj] at hq; exact ⟨sl', σ', M', hq, hr', hs'⟩
    · rename_i hj; rw [if_neg hj] at hq; exact ⟨sl', σ', M', hq, hr', hs'⟩
  | _ => exact ⟨sl', σ', M', hq, hr', hs'⟩
theorem ABlock_normal {i : Nat} (h : Q .normal sl σ) : ABlock i Q .normal sl σ := h
theorem ABlock_ret {i : Nat} (h : Q .ret sl σ) : ABlock i Q .ret sl σ := h
theorem ABlock_goto {i j : Nat} (h : Q (.goto j) sl σ) : ABlock i Q (.goto j) sl σ := h
theorem ABlock_exit {i : Nat} (h : Q .normal sl σ) : ABlock i Q (.exit i) sl σ := by simp only [ABlock, if_true]; exact h
theorem ABlock_other {i j : Nat} (hij : (j == i) = false) (h : Q (.exit j) sl σ) : ABlock i Q (.exit j) sl σ := by
  have : j ≠ i := by simpa using hij
  simp only [ABlock, this, if_false]; exact h
theorem least_nat {S : Nat → Prop} : ∀ n, S n → ∃ m, S m ∧ ∀ k, S k → m ≤ k := by
  intro n
  induction n using Nat.strongRecOn with
  | _ n ih =>
    intro hn
    by_cases h : ∃ k, k < n ∧ S k
    · obtain ⟨k, hk, hs⟩ := h; exact ih k hk hs
    · exact ⟨n, hn, fun k hk => Nat.le_of_not_lt fun hlt => h ⟨k, hlt, hk⟩⟩
theorem AWP_loop {c : Code} (I : List AV → ASt → Prop) (μ : List AV → ASt → Nat) (h0 : I sl σ) (round : ∀ sl σ, I sl σ → AWP P c sl σ (ARound I μ (μ sl σ) Q)) : AWP P (.loop c) sl σ Q := by
  intro base Fi M0 w0 M a w hs hr
  let S : Act → World → Nat → Prop := fun a w n => ∃ sl σ M, I sl σ ∧ μ sl σ = n ∧ Stp base Fi M0 w0 M w ∧ Rel base Fi M a w sl σ
  have hmin : ∀ a w, ∃ m, (∃ n, S a w n) → S a w m ∧ ∀ k, S a w k → m ≤ k := by
    intro a w
    by_cases h : ∃ n, S a w n
    · obtain ⟨n, hn⟩ := h
      obtain ⟨m, h1, h2⟩ := least_nat n hn
      exact ⟨m, fun _ => ⟨h1, h2⟩⟩
    · exact ⟨0, fun h' => absurd h' h⟩
  refine wp_loop (fun a w => ∃ n, S a w n) (fun a w => Classical.choose (hmin a w)) ⟨_, sl, σ, M, h0, rfl, hs, hr⟩ ?_
  intro a w hI
  obtain ⟨⟨sl, σ, M, h1, h2, h3, h4⟩, hle⟩ := Classical.choose_spec (hmin a w) hI
  refine wp_mono (round sl σ h1 base Fi M0 w0 M a w h3 h4) ?_
  rintro e a' w' ⟨sl', σ', M', hq, hr', hs'⟩
  cases e with
  | normal =>
    obtain ⟨hI', hlt⟩ := hq
    have hS : S a' w' (μ sl' σ') := ⟨sl', σ', M', hI', rfl, hs', hr'⟩
    have hm := Classical.choose_spec (hmin a' w') ⟨_, hS⟩
    exact ⟨⟨_, hS⟩, Nat.lt_of_le_of_lt (hm.2 _ hS) (h2 ▸ hlt)⟩
  | _ => exact ⟨sl', σ', M', hq, hr', hs'⟩
theorem ARound_normal {I : List AV → ASt → Prop} {μ : List AV → ASt → Nat} {n : Nat} (h : I sl σ) (h2 : μ sl σ < n) : ARound I μ n Q .normal sl σ := ⟨h, h2⟩
theorem ARound_ret {I : List AV → ASt → Prop} {μ : List AV → ASt → Nat} {n : Nat} (h : Q .ret sl σ) : ARound I μ n Q .ret sl σ := h
theorem ARound_exit {I : List AV → ASt → Prop} {μ : List AV → ASt → Nat} {n i : Nat} (h : Q (.exit i) sl σ) : ARound I μ n Q (.exit i) sl σ := h
theorem ARound_goto {I : List AV → ASt → Prop} {μ : List AV → ASt → Nat} {n i : Nat} (h : Q (.goto i) sl σ) : ARound I μ n Q (.goto i) sl σ := h
end Go.Proofs.Ytnjkklkjlloedaa
/-! The abstract machine: regions, tests, operations on numbers, texts and slices that turn no memory. -/
namespace Go.Proofs.Ytnjkklkjlloedaa
open Go.RowKit
set_option linter.unusedVariables false
set_option linter.unusedSimpArgs false

variable {base : Nat} {Fi : Int → Prop} {M M' M'' : MM} {w w' w'' : World}
variable {P : Program} {ops : Array Oper} {r : List Oper} {sl sl' : List AV} {σ σ' : ASt} {Q : Exit → List AV → ASt → Prop}
variable {d : Tmp} {dst : Option Tmp} {ty : TypeId} {pos : String} {after : Array Edge} {x y z : Operand} {gd : Option (Nat × Bool)} {op : Op}

theorem AWP_cond {c : Operand} {b : Bool} {u v : Code} (hc : aev sl c = .bool b) (h : AWP P (if b = true then u else v) sl σ Q) : AWP P (.cond c u v) sl σ Q := by
  intro base Fi M0 w0 M a w hs hr
  have hv := aev_reps hr.2.1 c
  rw [hc] at hv
  unfold Reps at hv
  exact wp_cond hv (h base Fi M0 w0 M a w hs hr)
theorem AWP_cond_t {c : Operand} {b : Bool} {u v : Code} (hc : aev sl c = .bool b) (hb : b = true) (h : AWP P u sl σ Q) : AWP P (.cond c u v) sl σ Q := AWP_cond hc (by rw [if_pos hb]; exact h)
theorem AWP_cond_f {c : Operand} {b : Bool} {u v : Code} (hc : aev sl c = .bool b) (hb : b = false) (h : AWP P v sl σ Q) : AWP P (.cond c u v) sl σ Q := AWP_cond hc (by rw [if_neg (by simp [hb])]; exact h)
theorem AWP_cond_s {c : Operand} {b : Bool} {u v : Code} (hc : aev sl c = .bool b) (h1 : b = true → AWP P u sl σ Q) (h2 : b = false → AWP P v sl σ Q) : AWP P (.cond c u v) sl σ Q := by
  cases b
  · exact AWP_cond_f hc rfl (h2 rfl)
  · exact AWP_cond_t hc rfl (h1 rfl)
theorem AWP_region {id : Nat} {l : List Oper} (h : AOPS P l.toArray l sl σ Q) : AWP P (.region id l.toArray false) sl σ Q := fun base Fi M0 w0 M a w hs hr => wp_region_lit (h base Fi M0 w0 M a w hs hr)
theorem AOPS_nil (h : Q .normal sl σ) : AOPS P ops [] sl σ Q := fun base Fi M0 w0 M a w hs hr => wpList_nil ⟨sl, σ, M, h, hr, hs⟩

/-- What the abstract machine sees of a guard. -/
def ayield (ops : Array Oper) (sl : List AV) (j : Nat) : Option Bool :=
  match ((ops[j]?).bind (·.dst)).map (fun d => sl.getD d .any) with
  | some (.bool b) => some b
  | _ => none
theorem ayield_ok {a : Act} (h : RepsL M w sl a.tmps.toList) {j : Nat} {b : Bool} (hy : ayield ops sl j = some b) : yielded ops a.tmps j = some b := by
  unfold ayield at hy
  cases hd : (ops[j]?).bind (·.dst) with
  | none => rw [hd] at hy; simp at hy
  | some d =>
    rw [hd] at hy
    simp only [Option.map_some] at hy
    have hr := aev_reps (w := w) h (.tmp d)
    simp only [aev] at hr
    split at hy
    · rename_i b' hb
      cases hy
      simp only [Option.some.injEq] at hb
      rw [hb] at hr
      unfold Reps at hr
      have h3 : a.tmps.getD d undef = .bool b := hr
      have h4 : a.tmps[d]? = some (.bool b) := by
        rw [Array.getD_eq_getD_getElem?] at h3
        cases hx : a.tmps[d]? with
        | none => rw [hx] at h3; simp [undef] at h3
        | some v => rw [hx] at h3; simpa using h3
      simp only [yielded, hd, Option.bind_some, h4]
    · cases hy
theorem AOPS_guard_no {j : Nat} {want b : Bool} (hy : ayield ops sl j = some b) (hb : b = !want) (hs : aput sl dst .und = sl') (h : AOPS P ops r sl' σ Q) : AOPS P ops (⟨dst, op, ty, pos, after, some (j, want)⟩ :: r) sl σ Q := by
  intro base Fi M0 w0 M a w hst hr
  refine wpList_step fun K hK => ?_
  have hy' := ayield_ok hr.2.1 hy
  have : Region.wanted ⟨dst, op, ty, pos, after, some (j, want)⟩ (yielded ops a.tmps) = false := by
    simp only [Region.wanted, hy', hb]; cases want <;> rfl
  rw [if_neg (by simp [this])]
  refine hK _ _ (h base Fi M0 w0 M _ w hst ⟨?_, ?_, hr.2.2⟩)
  · cases dst <;> exact hr.1
  · rw [← hs]; exact aput_reps hr.2.1 dst (by unfold Reps; rfl)
/-- A guard that is itself passed over. -/
theorem AOPS_guard_und {j : Nat} {want : Bool} (hy : ((ops[j]?).bind (·.dst)).map (fun d => sl.getD d .any) = some .und) (hs : aput sl dst .und = sl') (h : AOPS P ops r sl' σ Q) : AOPS P ops (⟨dst, op, ty, pos, after, some (j, want)⟩ :: r) sl σ Q := by
  intro base Fi M0 w0 M a w hst hr
  refine wpList_step fun K hK => ?_
  have hu : yielded ops a.tmps j = none := by
    cases hd : (ops[j]?).bind (·.dst) with
    | none => simp [yielded, hd]
    | some d =>
      rw [hd] at hy
      simp only [Option.map_some, Option.some.injEq] at hy
      have h1 := aev_reps (w := w) hr.2.1 (.tmp d)
      simp only [aev, hy] at h1
      unfold Reps at h1
      have h3 : a.tmps.getD d undef = undef := h1
      simp only [yielded, hd, Option.bind_some]
      rw [Array.getD_eq_getD_getElem?] at h3
      cases hx : a.tmps[d]? with
      | none => rfl
      | some v => rw [hx] at h3; simp only [Option.getD_some] at h3; subst h3; rfl
  have : Region.wanted ⟨dst, op, ty, pos, after, some (j, want)⟩ (yielded ops a.tmps) = false := by
    simp only [Region.wanted, hu]; rfl
  rw [if_neg (by simp [this])]
  refine hK _ _ (h base Fi M0 w0 M _ w hst ⟨?_, ?_, hr.2.2⟩)
  · cases dst <;> exact hr.1
  · rw [← hs]; exact aput_reps hr.2.1 dst (by unfold Reps; rfl)
theorem AOPS_guard_yes {j : Nat} {want b : Bool} (hy : ayield ops sl j = some b) (hb : b = want) (h : AOPS P ops (⟨dst, op, ty, pos, after, none⟩ :: r) sl σ Q) : AOPS P ops (⟨dst, op, ty, pos, after, some (j, want)⟩ :: r) sl σ Q := by
  intro base Fi M0 w0 M a w hst hr
  have h' := h base Fi M0 w0 M a w hst hr
  have hy' := ayield_ok hr.2.1 hy
  unfold wpList at h' ⊢
  have e1 : Region.wanted ⟨dst, op, ty, pos, after, some (j, want)⟩ (yielded ops a.tmps) = true := by simp only [Region.wanted, hy', hb]; simp
  rw [if_pos (by simp [Region.wanted])] at h'
  rw [if_pos e1]
  exact h'

/-! ### Operations that turn no memory -/
/-- Behind some steps. -/
def Later (M : MM) (w w' : World) : Prop := ∃ base Fi M', Stp base Fi M w M' w'
theorem Later.refl (M : MM) (w : World) : Later M w w := ⟨0, fun _ => False, M, Stp.refl _ _ _ _⟩
/-- An operation that turns nothing, and yields the same later on. -/
def ARun (P : Program) (o : Oper) (sl : List AV) (av : AV) : Prop := ∀ (M : MM) (a : Act) (w : World), RepsL M w sl a.tmps.toList → ∃ v, (∀ w', Later M w w' → (execOp a.eval o).run P w' = .ok (.value v) w') ∧ Reps M w av v
theorem AOPS_pure {o : Oper} {av : AV} (hg : o.guard = none) (ho : ARun P o sl av) (hs : aput sl o.dst av = sl') (h : AOPS P ops r sl' σ Q) : AOPS P ops (o :: r) sl σ Q := by
  intro base Fi M0 w0 M a w hst hr
  refine wpList_plain hg fun K hK => ?_
  obtain ⟨v, hrun, hv⟩ := ho M a w hr.2.1
  unfold Oper.wp
  rw [hrun w (Later.refl M w)]
  refine hK _ _ (h base Fi M0 w0 M _ w hst ⟨?_, ?_, hr.2.2⟩)
  · cases o.dst <;> exact hr.1
  · rw [← hs]; exact aput_reps hr.2.1 o.dst hv
theorem AOPS_move {av : AV} (hx : aev sl x = av) (hs : aput sl dst av = sl') (h : AOPS P ops r sl' σ Q) : AOPS P ops (⟨dst, .move x, ty, pos, after, none⟩ :: r) sl σ Q :=
  AOPS_pure rfl (fun M a w hr => ⟨_, fun _ _ => rfl, hx ▸ aev_reps hr x⟩) hs h
theorem AOPS_assign {av : AV} (hx : aev sl x = av) (hs : aput sl dst av = sl') (h : AOPS P ops r sl' σ Q) : AOPS P ops (⟨dst, .assign x, ty, pos, after, none⟩ :: r) sl σ Q :=
  AOPS_pure rfl (fun M a w hr => ⟨_, fun _ _ => rfl, hx ▸ aev_reps hr x⟩) hs h
theorem AOPS_pick_t {c : Operand} {b : Bool} {av : AV} (hc : aev sl c = .bool b) (hb : b = true) (hx : aev sl x = av) (hs : aput sl dst av = sl') (h : AOPS P ops r sl' σ Q) : AOPS P ops (⟨dst, .pick c x y, ty, pos, after, none⟩ :: r) sl σ Q :=
  AOPS_pure rfl (fun M a w hr => by
    have h1 := aev_reps hr c
    rw [hc, hb] at h1; unfold Reps at h1
    exact ⟨_, fun _ _ => by simp [execOp, h1, asBool], hx ▸ aev_reps hr x⟩) hs h
theorem AOPS_pick_f {c : Operand} {b : Bool} {av : AV} (hc : aev sl c = .bool b) (hb : b = false) (hx : aev sl y = av) (hs : aput sl dst av = sl') (h : AOPS P ops r sl' σ Q) : AOPS P ops (⟨dst, .pick c x y, ty, pos, after, none⟩ :: r) sl σ Q :=
  AOPS_pure rfl (fun M a w hr => by
    have h1 := aev_reps hr c
    rw [hc, hb] at h1; unfold Reps at h1
    exact ⟨_, fun _ _ => by simp [execOp, h1, asBool], hx ▸ aev_reps hr y⟩) hs h
theorem AOPS_not {b : Bool} (hx : aev sl x = .bool b) (hs : aput sl dst (.bool (!b)) = sl') (h : AOPS P ops r sl' σ Q) {t : TypeId} : AOPS P ops (⟨dst, .unOp .not t x, ty, pos, after, none⟩ :: r) sl σ Q :=
  AOPS_pure (av := .bool (!b)) rfl (fun M a w hr => by
    have h1 := aev_reps hr x
    rw [hx] at h1; unfold Reps at h1
    exact ⟨.bool (!b), fun w' _ => by simp [execOp, h1, Op.unary], by unfold Reps; rfl⟩) hs h
/-- What an operation on two numbers yields. -/
def abin (op : BinOp) (k : IntKind) (m n : Int) : Option AV :=
  match op with
  | .add => some (.int k (k.wrap (m + n)))
  | .sub => some (.int k (k.wrap (m - n)))
  | .mul => some (.int k (k.wrap (m * n)))
  | .quo => if n = 0 then none else some (.int k (k.wrap (m.tdiv n)))
  | .rem => if n = 0 then none else some (.int k (m.tmod n))
  | .and => some (.int k (bits .and k m n))
  | .or => some (.int k (bits .or k m n))
  | .xor => some (.int k (bits .xor k m n))
  | .eql => some (.bool (m == n))
  | .neq => some (.bool (m != n))
  | .lss => some (.bool (decide (m < n)))
  | .leq => some (.bool (decide (m ≤ n)))
  | .gtr => some (.bool (decide (m > n)))
  | .geq => some (.bool (decide (m ≥ n)))
  | _ => none
theorem Reps_int {k : IntKind} {n : Int} : Reps M w (.int k n) (.int k n) := by unfold Reps; rfl
theorem Reps_bool {b : Bool} : Reps M w (.bool b) (.bool b) := by unfold Reps; rfl
theorem abin_ok {op : BinOp} {k : IntKind} {m n : Int} {av : AV} (h : abin op k m n = some av) (t : TypeId) (M : MM) (w : World) : ∃ v, (∀ w', (binOp op t (.int k m) (.int k n)).run P w' = .ok v w') ∧ Reps M w av v := by
  cases op <;> simp only [abin] at h <;> first
    | (cases h; done)
    | (cases h; first | (refine ⟨_, fun w' => ?_, Reps_int⟩; simp [binOp, Op.intArith]; done) | (refine ⟨_, fun w' => ?_, Reps_int⟩; simp [binOp]; rfl) | (refine ⟨_, fun w' => ?_, Reps_bool⟩; simp [binOp, Op.intCmp]; done))
    | (split at h
       · cases h
       · rename_i hn
         cases h; exact ⟨_, fun w' => by simp [binOp, Op.intDiv, hn], Reps_int⟩)
theorem eqGuard_int (op : BinOp) (t : TypeId) (k : IntKind) (n : Int) (v : Value) : eqGuard op t x y (.int k n) v = pure () := by cases op <;> rfl
theorem eqGuard_bool (op : BinOp) (t : TypeId) (b : Bool) (v : Value) : eqGuard op t x y (.bool b) v = pure () := by cases op <;> rfl
theorem AOPS_bin {op : BinOp} {t t' : TypeId} {k : IntKind} {m n : Int} {av : AV} (hx : aev sl x = .int k m) (hy : aev sl y = .int k n) (ho : abin op k m n = some av) (hs : aput sl dst av = sl') (h : AOPS P ops r sl' σ Q) : AOPS P ops (⟨dst, .binOp op t x y t', ty, pos, after, none⟩ :: r) sl σ Q :=
  AOPS_pure (av := av) rfl (fun M a w hr => by
    have h1 := aev_reps hr x
    have h2 := aev_reps hr y
    rw [hx] at h1; rw [hy] at h2; unfold Reps at h1 h2
    obtain ⟨v, h3, h4⟩ := abin_ok (P := P) ho t M w
    exact ⟨v, fun w' _ => by simp [execOp, h1, h2, h3, eqGuard_int], h4⟩) hs h
theorem AOPS_shr {t t' : TypeId} {k k' : IntKind} {m n : Int} (hx : aev sl x = .int k m) (hy : aev sl y = .int k' n) (h0 : 0 ≤ n ∧ n ≤ k.bits) (hs : aput sl dst (.int k (m / 2 ^ n.toNat)) = sl') (h : AOPS P ops r sl' σ Q) : AOPS P ops (⟨dst, .binOp .shr t x y t', ty, pos, after, none⟩ :: r) sl σ Q :=
  AOPS_pure (av := .int k (m / 2 ^ n.toNat)) rfl (fun M a w hr => by
    have h1 := aev_reps hr x
    have h2 := aev_reps hr y
    rw [hx] at h1; rw [hy] at h2; unfold Reps at h1 h2
    exact ⟨.int k (m / 2 ^ n.toNat), fun w' _ => by simp [execOp, h1, h2, binOp, eqGuard_int, shift_shr k k' m n h0.1 h0.2], by unfold Reps; rfl⟩) hs h
theorem AOPS_shl {t t' : TypeId} {k k' : IntKind} {m n : Int} (hx : aev sl x = .int k m) (hy : aev sl y = .int k' n) (h0 : 0 ≤ n ∧ n ≤ k.bits) (hs : aput sl dst (.int k (k.wrap (m * 2 ^ n.toNat))) = sl') (h : AOPS P ops r sl' σ Q) : AOPS P ops (⟨dst, .binOp .shl t x y t', ty, pos, after, none⟩ :: r) sl σ Q :=
  AOPS_pure (av := .int k (k.wrap (m * 2 ^ n.toNat))) rfl (fun M a w hr => by
    have h1 := aev_reps hr x
    have h2 := aev_reps hr y
    rw [hx] at h1; rw [hy] at h2; unfold Reps at h1 h2
    exact ⟨.int k (k.wrap (m * 2 ^ n.toNat)), fun w' _ => by simp [execOp, h1, h2, binOp, eqGuard_int, shift_shl k k' m n h0.1 h0.2], by unfold Reps; rfl⟩) hs h
theorem AOPS_conv {src t : TypeId} {k k' : IntKind} {n : Int} (hx : aev sl x = .int k n) [T : TyInt P t k'] [T0 : TyInt P src k] (hs : aput sl dst (.int k' (k'.wrap n)) = sl') (h : AOPS P ops r sl' σ Q) : AOPS P ops (⟨dst, .convert src t x, ty, pos, after, none⟩ :: r) sl σ Q :=
  AOPS_pure (av := .int k' (k'.wrap n)) rfl (fun M a w hr => by
    have h1 := aev_reps hr x
    rw [hx] at h1; unfold Reps at h1
    exact ⟨.int k' (k'.wrap n), fun w' _ => by simp [execOp, h1, convert, run_underlying T.und, run_underlying T0.und, Conv.intToInt], by unfold Reps; rfl⟩) hs h
theorem binOp_eql_bool (t : TypeId) (b c : Bool) : binOp .eql t (.bool b) (.bool c) = (do pure (.bool (← Op.equal t (.bool b) (.bool c)))) := rfl
theorem binOp_neq_bool (t : TypeId) (b c : Bool) : binOp .neq t (.bool b) (.bool c) = (do pure (.bool (!(← Op.equal t (.bool b) (.bool c))))) := rfl
theorem AOPS_beq {t t' : TypeId} {b c : Bool} (hx : aev sl x = .bool b) (hy : aev sl y = .bool c) [T : TyBool P t] (hs : aput sl dst (.bool (b == c)) = sl') (h : AOPS P ops r sl' σ Q) : AOPS P ops (⟨dst, .binOp .eql t x y t', ty, pos, after, none⟩ :: r) sl σ Q :=
  AOPS_pure (av := .bool (b == c)) rfl (fun M a w hr => by
    have h1 := aev_reps hr x
    have h2 := aev_reps hr y
    rw [hx] at h1; rw [hy] at h2; unfold Reps at h1 h2
    have h3 : ∀ w, (Op.equal t (.bool b) (.bool c)).run P w = .ok (b == c) w := fun w => run_equalIn_bool' w 9999 t b c T.und
    exact ⟨.bool (b == c), fun w' _ => by simp [execOp, h1, h2, binOp_eql_bool, eqGuard_bool, h3], Reps_bool⟩) hs h
theorem AOPS_bne {t t' : TypeId} {b c : Bool} (hx : aev sl x = .bool b) (hy : aev sl y = .bool c) [T : TyBool P t] (hs : aput sl dst (.bool (b != c)) = sl') (h : AOPS P ops r sl' σ Q) : AOPS P ops (⟨dst, .binOp .neq t x y t', ty, pos, after, none⟩ :: r) sl σ Q :=
  AOPS_pure (av := .bool (b != c)) rfl (fun M a w hr => by
    have h1 := aev_reps hr x
    have h2 := aev_reps hr y
    rw [hx] at h1; rw [hy] at h2; unfold Reps at h1 h2
    have h3 : ∀ w, (Op.equal t (.bool b) (.bool c)).run P w = .ok (b == c) w := fun w => run_equalIn_bool' w 9999 t b c T.und
    exact ⟨.bool (!(b == c)), fun w' _ => by simp [execOp, h1, h2, binOp_neq_bool, eqGuard_bool, h3], Reps_bool⟩) hs h
theorem ba_toList (l : List UInt8) : (⟨l.toArray⟩ : ByteArray).toList = l := by
  simp [ByteArray.toList_eq]
end Go.Proofs.Ytnjkklkjlloedaa
/-! The abstract machine: structs, slices, texts, interfaces: operations that turn no memory. -/
namespace Go.Proofs.Ytnjkklkjlloedaa
open Go.RowKit
set_option linter.unusedVariables false
set_option linter.unusedSimpArgs false

variable {base : Nat} {Fi : Int → Prop} {M M' M'' : MM} {w w' w'' : World}
variable {P : Program} {ops : Array Oper} {r : List Oper} {sl sl' : List AV} {σ σ' : ASt} {Q : Exit → List AV → ASt → Prop}
variable {d : Tmp} {dst : Option Tmp} {ty : TypeId} {pos : String} {after : Array Edge} {x y z : Operand} {gd : Option (Nat × Bool)} {op : Op}

theorem ev1 {a : Act} (hr : RepsL M w sl a.tmps.toList) {av : AV} (hx : aev sl x = av) : Reps M w av (a.eval x) := hx ▸ aev_reps hr x

theorem ba_size (l : List UInt8) : (⟨l.toArray⟩ : ByteArray).size = l.length := by simp [ByteArray.size]
/-! ### Lengths -/
theorem AOPS_len_sl {t : TypeId} {own : AOwn} {cells : List AV} {n : Nat} (hx : aev sl x = .sl own cells n) {e : TypeId} {sz by_ : Nat} [T : TySl P t e sz by_] (hs : aput sl dst (.int .i64 n) = sl') (h : AOPS P ops r sl' σ Q) : AOPS P ops (⟨dst, .call { callee := .builtin .len, args := #[x], argTypes := #[t] }, ty, pos, after, none⟩ :: r) sl σ Q :=
  AOPS_pure (av := .int .i64 n) rfl (fun M a w hr => by
    have h1 := ev1 hr hx
    unfold Reps at h1
    obtain ⟨A, c, vs, h1, _⟩ := h1
    exact ⟨.int .i64 n, fun w' L => by simp [execOp, h1, resolve, invoke, builtin, Builtin.len_, run_underlying T.und, goInt], Reps_int⟩) hs h
theorem AOPS_len_nils {t : TypeId} (hx : aev sl x = .nils) {e : TypeId} {sz by_ : Nat} [T : TySl P t e sz by_] (hs : aput sl dst (.int .i64 0) = sl') (h : AOPS P ops r sl' σ Q) : AOPS P ops (⟨dst, .call { callee := .builtin .len, args := #[x], argTypes := #[t] }, ty, pos, after, none⟩ :: r) sl σ Q :=
  AOPS_pure (av := .int .i64 0) rfl (fun M a w hr => by
    have h1 := ev1 hr hx
    unfold Reps at h1
    exact ⟨.int .i64 0, fun w' L => by simp [execOp, h1, resolve, invoke, builtin, Builtin.len_, run_underlying T.und, goInt], Reps_int⟩) hs h
theorem AOPS_len_row {t : TypeId} {id : Int} {off n : Nat} (hx : aev sl x = .row id off n) {e : TypeId} {sz by_ : Nat} [T : TySl P t e sz by_] (hs : aput sl dst (.int .i64 n) = sl') (h : AOPS P ops r sl' σ Q) : AOPS P ops (⟨dst, .call { callee := .builtin .len, args := #[x], argTypes := #[t] }, ty, pos, after, none⟩ :: r) sl σ Q :=
  AOPS_pure (av := .int .i64 n) rfl (fun M a w hr => by
    have h1 := ev1 hr hx
    unfold Reps at h1
    obtain ⟨b, _, h1, _⟩ := h1
    exact ⟨.int .i64 n, fun w' L => by simp [execOp, h1, resolve, invoke, builtin, Builtin.len_, run_underlying T.und, goInt], Reps_int⟩) hs h
theorem AOPS_len_str {t : TypeId} {s : List UInt8} (hx : aev sl x = .str s) [T : TyStr P t] (hs : aput sl dst (.int .i64 s.length) = sl') (h : AOPS P ops r sl' σ Q) : AOPS P ops (⟨dst, .call { callee := .builtin .len, args := #[x], argTypes := #[t] }, ty, pos, after, none⟩ :: r) sl σ Q :=
  AOPS_pure (av := .int .i64 s.length) rfl (fun M a w hr => by
    have h1 := ev1 hr hx
    unfold Reps at h1
    exact ⟨.int .i64 s.length, fun w' L => by simp [execOp, h1.1, resolve, invoke, builtin, Builtin.len_, run_underlying T.und, goInt, ba_size], Reps_int⟩) hs h
theorem AOPS_len_arr {t e : TypeId} {n : Nat} [T : TyArr P t n e] (hs : aput sl dst (.int .i64 n) = sl') (h : AOPS P ops r sl' σ Q) : AOPS P ops (⟨dst, .call { callee := .builtin .len, args := #[x], argTypes := #[t] }, ty, pos, after, none⟩ :: r) sl σ Q :=
  AOPS_pure (av := .int .i64 n) rfl (fun M a w hr => by
    exact ⟨.int .i64 n, fun w' L => by simp [execOp, resolve, invoke, builtin, Builtin.len_, run_underlying T.und, goInt], Reps_int⟩) hs h

/-! ### Fields, elements -/
class TyFldS (P : Program) (t : TypeId) (f : Nat) (off : outParam Nat) (agg : outParam Bool) (sz : outParam Nat) : Prop where
  fld : ∃ ft, TyFld P t f off ft ∧ TyVar P ft agg sz
  pos : 0 < sz
def apart (agg : Bool) (sz : Nat) (cells : List AV) (off : Nat) : Option AV := if agg = true then some (.agg ((cells.drop off).take sz)) else cells[off]?
theorem apart_ok {t : TypeId} {agg : Bool} {sz off : Nat} {cells : List AV} {vs : Array Value} {av : AV} (T : TyVar P t agg sz) (h : RepsL M w cells vs.toList) (ha : apart agg sz cells off = some av) : ∃ v, (∀ w', (part t vs off).run P w' = .ok v w') ∧ Reps M w av v := by
  have h1 := fun w => T.isAgg w
  have h2 := fun w => T.sizeOf w
  cases agg with
  | true =>
    simp only [apart, if_true, Option.some.injEq] at ha
    subst ha
    refine ⟨.agg (vs.extract off (off + sz)), fun w' => by simp [part, h1, h2], ?_⟩
    unfold Reps
    refine ⟨_, rfl, ?_⟩
    have := (h.drop off).take sz
    simpa [List.take_drop, Nat.add_comm] using this
  | false =>
    simp only [apart, Bool.false_eq_true, if_false] at ha
    obtain ⟨v, hv, hr⟩ := h.get off av ha
    exact ⟨v, fun w' => by simp [part, h1]; rw [show vs[off]? = some v by simpa using hv]; rfl, hr⟩
theorem fieldAt_ok {t : TypeId} {f off : Nat} {agg : Bool} {sz : Nat} [T : TyFldS P t f off agg sz] (b o : Nat) (w : World) : (Instr.fieldAt t (.pointer (some ⟨b, o, none⟩)) f).run P w = .ok (.pointer (some ⟨b, o + off, none⟩)) w := by
  obtain ⟨ft, F, V⟩ := T.fld
  obtain ⟨fs, x, h1, h2, rfl, rfl⟩ := F.und
  have h3 := V.sizeOf w
  have h4 := T.pos
  have h5 : sz ≠ 0 := by omega
  simp [Instr.fieldAt, run_underlying h1, h2, Instr.sureAddr, fieldPlace, h3, h5, addr_add]
theorem AOPS_fieldAddr {t : TypeId} {f off o : Nat} {id : Int} {agg : Bool} {sz : Nat} (hx : aev sl x = .ptr id o) [T : TyFldS P t f off agg sz] (hs : aput sl dst (.ptr id (o + off)) = sl') (h : AOPS P ops r sl' σ Q) : AOPS P ops (⟨dst, .fieldAddr t x f, ty, pos, after, none⟩ :: r) sl σ Q :=
  AOPS_pure (av := .ptr id (o + off)) rfl (fun M a w hr => by
    have h1 := ev1 hr hx
    unfold Reps at h1
    obtain ⟨b, h0, h1⟩ := h1
    exact ⟨.pointer (some ⟨b, o + off, none⟩), fun w' L => by simp [execOp, h1, fieldAt_ok], by unfold Reps; exact ⟨b, h0, rfl⟩⟩) hs h
theorem AOPS_fieldAddr_epr {t : TypeId} {f off o : Nat} {cells : List AV} {agg : Bool} {sz : Nat} (hx : aev sl x = .epr cells o) [T : TyFldS P t f off agg sz] (hs : aput sl dst (.epr cells (o + off)) = sl') (h : AOPS P ops r sl' σ Q) : AOPS P ops (⟨dst, .fieldAddr t x f, ty, pos, after, none⟩ :: r) sl σ Q :=
  AOPS_pure (av := .epr cells (o + off)) rfl (fun M a w hr => by
    have h1 := ev1 hr hx
    unfold Reps at h1
    obtain ⟨b, o', vs, h1, h2, h3⟩ := h1
    exact ⟨.pointer (some ⟨b, o' + o + off, none⟩), fun w' L => by simp [execOp, h1, fieldAt_ok], by unfold Reps; exact ⟨b, o', vs, by rw [Nat.add_assoc], h2, h3⟩⟩) hs h
theorem AOPS_field {t : TypeId} {f off : Nat} {agg : Bool} {sz : Nat} {cells : List AV} {av : AV} (hx : aev sl x = .agg cells) [T : TyFldS P t f off agg sz] (hp : apart agg sz cells off = some av) (hs : aput sl dst av = sl') (h : AOPS P ops r sl' σ Q) : AOPS P ops (⟨dst, .field t x f, ty, pos, after, none⟩ :: r) sl σ Q :=
  AOPS_pure (av := av) rfl (fun M a w hr => by
    have h1 := ev1 hr hx
    unfold Reps at h1
    obtain ⟨vs, h1, h2⟩ := h1
    obtain ⟨ft, F, V⟩ := T.fld
    obtain ⟨fs, x, h3, h4, rfl, rfl⟩ := F.und
    obtain ⟨v, h5, h6⟩ := apart_ok V h2 hp
    exact ⟨v, fun w' L => by simp [execOp, h1, Instr.field, run_underlying h3, h4, asAgg, h5], h6⟩) hs h
theorem AOPS_indexAddr {t e : TypeId} {sz by_ : Nat} {own : AOwn} {cells : List AV} {n : Nat} {k : IntKind} {i : Int} (hx : aev sl x = .sl own cells n) (hy : aev sl y = .int k i) [T : TySl P t e sz by_] (hi : 0 ≤ i ∧ i < n) (hs : aput sl dst (.epr cells (i.toNat * sz)) = sl') (h : AOPS P ops r sl' σ Q) : AOPS P ops (⟨dst, .indexAddr t x y, ty, pos, after, none⟩ :: r) sl σ Q :=
  AOPS_pure (av := .epr cells (i.toNat * sz)) rfl (fun M a w hr => by
    have h1 := ev1 hr hx
    have h2 := ev1 hr hy
    unfold Reps at h1 h2
    obtain ⟨A, c, vs, h1, h3, h4, h5, h6, h7, _⟩ := h1
    obtain ⟨b, o, rfl, hm⟩ := h6.resolve_left (by omega)
    have h8 := fun w => T.sizeOf w
    exact ⟨.pointer (some ⟨b, o + i.toNat * sz, none⟩), fun w' L => by simp [execOp, h1, h2, Instr.indexAt, run_underlying T.und, asIntOf, hi, h8, addr_add], by unfold Reps; exact ⟨b, o, vs, rfl, hm, h7⟩⟩) hs h
theorem AOPS_indexAddr_row {t e : TypeId} {sz by_ : Nat} {id : Int} {off n : Nat} {k : IntKind} {i : Int} (hx : aev sl x = .row id off n) (hy : aev sl y = .int k i) [T : TySl P t e sz by_] (hi : 0 ≤ i ∧ i < n) (hs : aput sl dst (.ptr id (off + i.toNat * sz)) = sl') (h : AOPS P ops r sl' σ Q) : AOPS P ops (⟨dst, .indexAddr t x y, ty, pos, after, none⟩ :: r) sl σ Q :=
  AOPS_pure (av := .ptr id (off + i.toNat * sz)) rfl (fun M a w hr => by
    have h1 := ev1 hr hx
    have h2 := ev1 hr hy
    unfold Reps at h1 h2
    obtain ⟨b, h0, h1, _⟩ := h1
    have h8 := fun w => T.sizeOf w
    exact ⟨.pointer (some ⟨b, off + i.toNat * sz, none⟩), fun w' L => by simp [execOp, h1, h2, Instr.indexAt, run_underlying T.und, asIntOf, hi, h8, addr_add], by unfold Reps; exact ⟨b, h0, rfl⟩⟩) hs h
theorem AOPS_indexAddr_arr {t e : TypeId} {sz m : Nat} {agg : Bool} {id : Int} {off : Nat} {k : IntKind} {i : Int} (hx : aev sl x = .ptr id off) (hy : aev sl y = .int k i) [T : TyArr P t m e] [V : TyVar P e agg sz] (hi : 0 ≤ i ∧ i < m) (hs : aput sl dst (.ptr id (off + i.toNat * sz)) = sl') (h : AOPS P ops r sl' σ Q) : AOPS P ops (⟨dst, .indexAddr t x y, ty, pos, after, none⟩ :: r) sl σ Q :=
  AOPS_pure (av := .ptr id (off + i.toNat * sz)) rfl (fun M a w hr => by
    have h1 := ev1 hr hx
    have h2 := ev1 hr hy
    unfold Reps at h1 h2
    obtain ⟨b, h0, h1⟩ := h1
    have h8 := fun w => V.sizeOf w
    exact ⟨.pointer (some ⟨b, off + i.toNat * sz, none⟩), fun w' L => by simp [execOp, h1, h2, Instr.indexAt, run_underlying T.und, asIntOf, Instr.sureAddr, hi, h8, addr_add], by unfold Reps; exact ⟨b, h0, rfl⟩⟩) hs h
theorem AOPS_index_arr {t e : TypeId} {sz m : Nat} {agg : Bool} {cells : List AV} {k : IntKind} {i : Int} {av : AV} (hx : aev sl x = .agg cells) (hy : aev sl y = .int k i) [T : TyArr P t m e] [V : TyVar P e agg sz] (hi : 0 ≤ i ∧ i < m) (hp : apart agg sz cells (i.toNat * sz) = some av) (hs : aput sl dst av = sl') (h : AOPS P ops r sl' σ Q) : AOPS P ops (⟨dst, .index t x y, ty, pos, after, none⟩ :: r) sl σ Q :=
  AOPS_pure (av := av) rfl (fun M a w hr => by
    have h1 := ev1 hr hx
    have h2 := ev1 hr hy
    unfold Reps at h1 h2
    obtain ⟨vs, h1, h3⟩ := h1
    have h8 := fun w => V.sizeOf w
    obtain ⟨v, h5, h6⟩ := apart_ok V h3 hp
    exact ⟨v, fun w' L => by simp [execOp, h1, h2, Instr.index, run_underlying T.und, asIntOf, hi, h8, h5], h6⟩) hs h
/-- What a variable of so many cells holds. -/
def aload (agg : Bool) (sz : Nat) (cells : List AV) (off : Nat) : Option AV := if agg = true then (if off + sz ≤ cells.length then some (.agg ((cells.drop off).take sz)) else none) else cells[off]?
theorem loadVar_ok {t : TypeId} {agg : Bool} {sz off b o : Nat} {cells : List AV} {vs : List Value} {av : AV} (T : TyVar P t agg sz) (h : RepsL M w cells vs) {L : World → Prop} (hm : ∀ w', L w' → ∀ j u, vs[j]? = some u → w'.cell? ⟨b, o + j, none⟩ = some u) (ha : aload agg sz cells off = some av) : ∃ v, (∀ w', L w' → (loadVar t ⟨b, o + off, none⟩).run P w' = .ok v w') ∧ Reps M w av v := by
  have h1 := fun w => T.isAgg w
  have h2 := fun w => T.sizeOf w
  cases agg with
  | true =>
    simp only [aload, if_true] at ha
    split at ha
    · rename_i hle
      cases ha
      have hl := h.length
      have h3 := fun w' (hL : L w') => run_loadCells_list (P := P) w' ⟨b, o + off, none⟩ ((vs.drop off).take sz) (fun j v hv => by
        rw [addr_add, Nat.add_assoc]
        refine hm w' hL _ _ ?_
        rw [List.getElem?_take] at hv
        split at hv
        · rwa [List.getElem?_drop] at hv
        · cases hv)
      rw [show ((vs.drop off).take sz).length = sz by simp; omega] at h3
      refine ⟨.agg ((vs.drop off).take sz).toArray, fun w' hL => by simp [loadVar, h1, h2, h3 w' hL], ?_⟩
      unfold Reps
      exact ⟨_, rfl, by simpa using (h.drop off).take sz⟩
    · cases ha
  | false =>
    simp only [aload, Bool.false_eq_true, if_false] at ha
    obtain ⟨v, hv, hr⟩ := h.get off av ha
    exact ⟨v, fun w' hL => by simp [loadVar, h1, hm w' hL off v hv], hr⟩
theorem Mem.later {b o : Nat} {vs : List Value} (h : Mem M w b o vs) (L : Later M w w') (j : Nat) (u : Value) (hu : vs[j]? = some u) : w'.cell? ⟨b, o + j, none⟩ = some u := by
  obtain ⟨base, Fi, M', hS⟩ := L
  exact (h.stp hS j u hu).1
theorem AOPS_load_epr {t : TypeId} {agg : Bool} {sz off : Nat} {cells : List AV} {av : AV} (hx : aev sl x = .epr cells off) [T : TyVar P t agg sz] (hp : aload agg sz cells off = some av) (hs : aput sl dst av = sl') (h : AOPS P ops r sl' σ Q) : AOPS P ops (⟨dst, .load t x, ty, pos, after, none⟩ :: r) sl σ Q :=
  AOPS_pure (av := av) rfl (fun M a w hr => by
    have h1 := ev1 hr hx
    unfold Reps at h1
    obtain ⟨b, o, vs, h1, h2, h3⟩ := h1
    obtain ⟨v, h5, h6⟩ := loadVar_ok T h3 (L := Later M w) (fun w' L j u hu => (h2.later L j u hu)) hp
    exact ⟨v, fun w' L => by simp [execOp, h1, Instr.loadAt, Instr.sureAddr, h5 w' L], h6⟩) hs h

/-! ### Slices of slices -/
theorem Reps.cut {own : AOwn} {cells : List AV} {n sz b : Nat} {l h c : Nat} {A : Option Addr} {vs : List Value} (hlh : l ≤ h) (hn : h ≤ n) (hc : n ≤ c) (hm : c ≤ maxLen) (hA : A = none → c = 0) (h6 : n = 0 ∨ ∃ b o, A = some ⟨b, o, none⟩ ∧ Mem M w b o vs) (h7 : RepsL M w cells vs) :
    Reps M w (.sl .none ((cells.drop (l * sz)).take ((h - l) * sz)) (h - l)) (.slice (if c = l then A else A.map (·.add (l * sz))) (h - l) (c - l)) := by
  unfold Reps
  refine ⟨_, _, (vs.drop (l * sz)).take ((h - l) * sz), rfl, by omega, by omega, ?_, ?_, (h7.drop _).take _, ?_, trivial⟩
  · intro e
    split at e
    · have := hA e; omega
    · cases A with
      | none => have := hA rfl; omega
      | some a => simp at e
  · by_cases h0 : h - l = 0
    · exact .inl h0
    · refine .inr ?_
      obtain ⟨b, o, rfl, hmem⟩ := h6.resolve_left (by omega)
      rw [if_neg (by omega)]
      refine ⟨b, o + l * sz, by simp [addr_add], fun j u hu => ?_⟩
      rw [List.getElem?_take] at hu
      split at hu
      · rw [List.getElem?_drop] at hu
        rw [Nat.add_assoc]
        exact hmem _ _ hu
      · cases hu
  · intro h0; simp [h0]
theorem AOPS_slice_lh {t e : TypeId} {sz by_ : Nat} {own : AOwn} {cells : List AV} {n l m : Nat} {k k' : IntKind} {i j : Int} (hx : aev sl x = .sl own cells n) [T : TySl P t e sz by_] (hy : aev sl y = .int k i) (hz : aev sl z = .int k' j) (hl : i = (l : Int)) (hh : j = (m : Int)) (hlm : l ≤ m ∧ m ≤ n) (hs : aput sl dst (.sl .none ((cells.drop (l * sz)).take ((m - l) * sz)) (m - l)) = sl') (h : AOPS P ops r sl' σ Q) : AOPS P ops (⟨dst, .slice t x (some y) (some z) none, ty, pos, after, none⟩ :: r) sl σ Q :=
  AOPS_pure (av := .sl .none ((cells.drop (l * sz)).take ((m - l) * sz)) (m - l)) rfl (fun M a w hr => by
    have h1 := ev1 hr hx
    have h2 := ev1 hr hy
    have h3 := ev1 hr hz
    unfold Reps at h1 h2 h3
    obtain ⟨A, c, vs, h1, h4, h5, h6, h7, h8, h9, _⟩ := h1
    subst hl hh
    have h10 := fun w => T.sizeOf w
    refine ⟨_, fun w' L => ?_, Reps.cut (own := own) (b := 0) hlm.1 hlm.2 h4 h5 h6 h7 h8⟩
    have h11 : l ≤ m := hlm.1
    have h12 : m ≤ c := by omega
    simp [execOp, h1, h2, h3, Instr.sliceAt, Instr.slice, run_underlying T.und, Instr.sliceBounds, Instr.sliceBound, asIntOf, h11, h12, h10]) hs h
theorem AOPS_slice_h {t e : TypeId} {sz by_ : Nat} {own : AOwn} {cells : List AV} {n m : Nat} {k' : IntKind} {j : Int} (hx : aev sl x = .sl own cells n) [T : TySl P t e sz by_] (hz : aev sl z = .int k' j) (hh : j = (m : Int)) (hlm : m ≤ n) (hs : aput sl dst (.sl .none (cells.take (m * sz)) m) = sl') (h : AOPS P ops r sl' σ Q) : AOPS P ops (⟨dst, .slice t x none (some z) none, ty, pos, after, none⟩ :: r) sl σ Q :=
  AOPS_pure (av := .sl .none (cells.take (m * sz)) m) rfl (fun M a w hr => by
    have h1 := ev1 hr hx
    have h3 := ev1 hr hz
    unfold Reps at h1 h3
    obtain ⟨A, c, vs, h1, h4, h5, h6, h7, h8, h9, _⟩ := h1
    subst hh
    have h10 := fun w => T.sizeOf w
    have key := Reps.cut (own := own) (b := 0) (sz := sz) (Nat.zero_le m) hlm h4 h5 h6 h7 h8
    simp only [Nat.zero_mul, List.drop_zero, Nat.sub_zero] at key
    refine ⟨_, fun w' L => ?_, key⟩
    have h12 : m ≤ c := by omega
    have h13 : ¬ c < m := by omega
    simp [execOp, h1, h3, Instr.sliceAt, Instr.slice, run_underlying T.und, Instr.sliceBounds, Instr.sliceBound, asIntOf, h12, h10, h13]) hs h
theorem AOPS_slice_l {t e : TypeId} {sz by_ : Nat} {own : AOwn} {cells : List AV} {n l : Nat} {k : IntKind} {i : Int} (hx : aev sl x = .sl own cells n) [T : TySl P t e sz by_] (hy : aev sl y = .int k i) (hl : i = (l : Int)) (hlm : l ≤ n) (hs : aput sl dst (.sl .none ((cells.drop (l * sz)).take ((n - l) * sz)) (n - l)) = sl') (h : AOPS P ops r sl' σ Q) : AOPS P ops (⟨dst, .slice t x (some y) none none, ty, pos, after, none⟩ :: r) sl σ Q :=
  AOPS_pure (av := .sl .none ((cells.drop (l * sz)).take ((n - l) * sz)) (n - l)) rfl (fun M a w hr => by
    have h1 := ev1 hr hx
    have h2 := ev1 hr hy
    unfold Reps at h1 h2
    obtain ⟨A, c, vs, h1, h4, h5, h6, h7, h8, h9, _⟩ := h1
    subst hl
    have h10 := fun w => T.sizeOf w
    refine ⟨_, fun w' L => ?_, Reps.cut (own := own) (b := 0) hlm (Nat.le_refl n) h4 h5 h6 h7 h8⟩
    have h11 : l ≤ n := by omega
    have h13 : ¬ n < l := by omega
    simp [execOp, h1, h2, Instr.sliceAt, Instr.slice, run_underlying T.und, Instr.sliceBounds, Instr.sliceBound, asIntOf, h11, h10, h13]) hs h

/-! ### Texts -/
def bvA (x : UInt8) : AV := .int .u8 x.toNat
theorem bvA_vals : ∀ {l : List UInt8} {vs : List Value}, RepsL M w (l.map bvA) vs → vs = bvs l
  | [], vs, h => by unfold RepsL at h; exact h
  | x :: l, vs, h => by
    simp only [List.map_cons] at h
    unfold RepsL at h
    obtain ⟨v, vr, rfl, h2, h3⟩ := h
    unfold bvA Reps at h2
    rw [h2, bvA_vals h3]; rfl
theorem bvA_reps : ∀ (l : List UInt8), RepsL M w (l.map bvA) (bvs l)
  | [] => RepsL.nil
  | x :: l => RepsL.cons Reps_int (bvA_reps l)
/-- A slice of bytes, as the contracts so far have it. -/
theorem Reps.rd {own : AOwn} {l : List UInt8} {n : Nat} {v : Value} (h : Reps M w (.sl own (l.map bvA) n) v) (hl : l.length = n) : ∃ A c, v = .slice A n c ∧ Rd w 1 A n c (bvs l) := by
  unfold Reps at h
  obtain ⟨A, c, vs, rfl, h2, h3, h4, h5, h6, h7, _⟩ := h
  obtain rfl := bvA_vals h6
  exact ⟨A, c, rfl, by rw [bvs_length]; omega, h2, h3, h4, h5.imp id fun ⟨b, o, hA, hm⟩ => ⟨b, o, hA, fun j u hu => (hm j u hu).1⟩⟩
theorem Reps.rd_later {own : AOwn} {l : List UInt8} {n : Nat} {v : Value} (h : Reps M w (.sl own (l.map bvA) n) v) (hl : l.length = n) {A : Option Addr} {c : Nat} (he : v = .slice A n c) (L : Later M w w') : Rd w' 1 A n c (bvs l) := by
  obtain ⟨base, Fi, M', hS⟩ := L
  obtain ⟨A', c', h1, h2⟩ := (Reps.stp hS _ _ h).rd hl
  rw [he] at h1
  cases h1
  exact h2
theorem AOPS_string {src t e : TypeId} {sz by_ : Nat} {own : AOwn} {l : List UInt8} {n : Nat} {cells : List AV} (hx : aev sl x = .sl own cells n) [T : TySl P src e sz by_] [B : TyInt P e .u8] [S : TyStr P t] (hb : cells = l.map bvA) (hl : l.length = n) (hs : aput sl dst (.str l) = sl') (h : AOPS P ops r sl' σ Q) : AOPS P ops (⟨dst, .convert src t x, ty, pos, after, none⟩ :: r) sl σ Q :=
  AOPS_pure (av := .str l) rfl (fun M a w hr => by
    have h1 := ev1 hr hx
    rw [hb] at h1
    obtain ⟨A, c, h2, h3⟩ := h1.rd hl
    have h4 := fun w' (L : Later M w w') => run_string_rd (P := P) T.und B.und S.und (h1.rd_later hl h2 L)
    refine ⟨.string ⟨l.toArray⟩, fun w' L => by simp only [execOp, h2, Sem.run_bind, h4 w' L, Result.andThen_ok, Sem.run_pure], ?_⟩
    unfold Reps
    exact ⟨rfl, by have := h3.cap; have := h3.max; omega⟩) hs h
theorem AOPS_string_nils {src t e : TypeId} {sz by_ : Nat} (hx : aev sl x = .nils) [T : TySl P src e sz by_] [B : TyInt P e .u8] [S : TyStr P t] (hs : aput sl dst (.str []) = sl') (h : AOPS P ops r sl' σ Q) : AOPS P ops (⟨dst, .convert src t x, ty, pos, after, none⟩ :: r) sl σ Q :=
  AOPS_pure (av := .str []) rfl (fun M a w hr => by
    have h1 := ev1 hr hx
    unfold Reps at h1
    have h4 := fun w' => run_string_rd (P := P) (w := w') T.und B.und S.und (bs := []) (A := none) (n := 0) (c := 0) ⟨by simp [bvs], Nat.le_refl _, by simp, fun _ => rfl, .inl rfl⟩
    refine ⟨.string ⟨[].toArray⟩, fun w' L => by simp only [execOp, h1, Sem.run_bind, h4, Result.andThen_ok, Sem.run_pure], ?_⟩
    unfold Reps
    exact ⟨rfl, by simp⟩) hs h
theorem eqGuard_str (op : BinOp) (t : TypeId) (b : ByteArray) (v : Value) : eqGuard op t x y (.string b) v = pure () := by cases op <;> rfl
def astr (op : BinOp) (s t : List UInt8) : Option AV :=
  match op with
  | .eql => some (.bool (s == t))
  | .neq => some (.bool (!(s == t)))
  | .lss => some (.bool (Op.bytesLess s t))
  | .leq => some (.bool (Op.bytesLess s t || s == t))
  | .gtr => some (.bool (!(Op.bytesLess s t || s == t)))
  | .geq => some (.bool (!(Op.bytesLess s t)))
  | .add => if s.length + t.length ≤ 1000000000 then some (.str (s ++ t)) else none
  | _ => none
theorem astr_ok {op : BinOp} {s u : List UInt8} {av : AV} (h : astr op s u = some av) (t : TypeId) (M : MM) (w : World) : ∃ v, (∀ w', (binOp op t (.string ⟨s.toArray⟩) (.string ⟨u.toArray⟩)).run P w' = .ok v w') ∧ Reps M w av v := by
  cases op <;> simp only [astr] at h <;> first
    | (cases h; done)
    | (cases h; refine ⟨_, fun w' => ?_, Reps_bool⟩; simp [binOp, Op.stringOp, ba_toList]; done)
    | (split at h
       · rename_i hn
         cases h
         refine ⟨.string (⟨s.toArray⟩ ++ ⟨u.toArray⟩), fun w' => ?_, ?_⟩
         · have h2 : (⟨s.toArray⟩ : ByteArray).size = s.length := by simp [ByteArray.size]
           have h3 : (⟨u.toArray⟩ : ByteArray).size = u.length := by simp [ByteArray.size]
           have := run_string_add_sum (P := P) w' ⟨s.toArray⟩ ⟨u.toArray⟩ (by rw [h2, h3]; omega)
           simpa [binOp] using this
         · unfold Reps
           refine ⟨?_, by simp only [List.length_append, maxLen]; omega⟩
           congr 1
           first | done | (apply ByteArray.ext; first | done | simp)
       · cases h)
theorem AOPS_str {op : BinOp} {t t' : TypeId} {s u : List UInt8} {av : AV} (hx : aev sl x = .str s) (hy : aev sl y = .str u) (ho : astr op s u = some av) (hs : aput sl dst av = sl') (h : AOPS P ops r sl' σ Q) : AOPS P ops (⟨dst, .binOp op t x y t', ty, pos, after, none⟩ :: r) sl σ Q :=
  AOPS_pure (av := av) rfl (fun M a w hr => by
    have h1 := ev1 hr hx
    have h2 := ev1 hr hy
    unfold Reps at h1 h2
    obtain ⟨v, h3, h4⟩ := astr_ok (P := P) ho t M w
    exact ⟨v, fun w' L => by simp [execOp, h1.1, h2.1, h3, eqGuard_str], h4⟩) hs h

/-! ### Interfaces, functions, tuples -/
theorem AOPS_iface {t : TypeId} {av : AV} (hx : aev sl x = av) [T : TyConc P t] (hs : aput sl dst (.iface t av) = sl') (h : AOPS P ops r sl' σ Q) : AOPS P ops (⟨dst, .makeInterface t x, ty, pos, after, none⟩ :: r) sl σ Q :=
  AOPS_pure (av := .iface t av) rfl (fun M a w hr => by
    obtain ⟨d, hd, hni⟩ := T.und
    refine ⟨.iface t (a.eval x), fun w L => ?_, by unfold Reps; exact ⟨_, rfl, ev1 hr hx⟩⟩
    have h2 : (Instr.makeInterface t (a.eval x)).run P w = .ok (.iface t (a.eval x)) w := by
      unfold Instr.makeInterface
      simp only [Sem.run_bind, run_underlying hd, Result.andThen_ok]
      cases d <;> first | exact absurd rfl (hni _) | rfl
    simp [execOp, h2]) hs h
theorem AOPS_assert_yes {t u : TypeId} {av : AV} (hx : aev sl x = .iface t av) [T : TyConc P t] (hs : aput sl dst (.tup [av, .bool true]) = sl') (h : AOPS P ops r sl' σ Q) : AOPS P ops (⟨dst, .typeAssert x u t true, ty, pos, after, none⟩ :: r) sl σ Q :=
  AOPS_pure (av := .tup [av, .bool true]) rfl (fun M a w hr => by
    have h1 := ev1 hr hx
    unfold Reps at h1
    obtain ⟨v, h1, h2⟩ := h1
    obtain ⟨d, hd, hni⟩ := T.und
    have h3 := fun w => run_typeAssert_yes (P := P) hd hni u v w
    exact ⟨.tuple #[v, .bool true], by simp [execOp, h1, h3], by unfold Reps; exact ⟨_, rfl, RepsL.cons h2 (RepsL.one Reps_bool)⟩⟩) hs h
theorem AOPS_extract {cs : List AV} {i : Nat} {av : AV} (hx : aev sl x = .tup cs) (hi : cs[i]? = some av) (hs : aput sl dst av = sl') (h : AOPS P ops r sl' σ Q) : AOPS P ops (⟨dst, .extract x i, ty, pos, after, none⟩ :: r) sl σ Q :=
  AOPS_pure (av := av) rfl (fun M a w hr => by
    have h1 := ev1 hr hx
    unfold Reps at h1
    obtain ⟨vs, h1, h2⟩ := h1
    obtain ⟨v, h3, h4⟩ := h2.get i av hi
    have h5 : vs[i]? = some v := by simpa using h3
    exact ⟨v, fun w' L => by simp [execOp, h1, Instr.extract, h5], h4⟩) hs h
theorem evs {a : Act} (hr : RepsL M w sl a.tmps.toList) : ∀ (l : List Operand), RepsL M w (l.map (aev sl)) (l.map a.eval)
  | [] => RepsL.nil
  | o :: l => RepsL.cons (aev_reps hr o) (evs hr l)
theorem AOPS_makeFunc {f : FuncId} {first captured : List Operand} {cs fs : List AV} (h1 : first.map (aev sl) = fs) (h2 : captured.map (aev sl) = cs) (hs : aput sl dst (.fn f fs cs) = sl') (h : AOPS P ops r sl' σ Q) : AOPS P ops (⟨dst, .makeFunc (.func f) first.toArray captured.toArray, ty, pos, after, none⟩ :: r) sl σ Q :=
  AOPS_pure (av := .fn f fs cs) rfl (fun M a w hr => by
    subst h1 h2
    exact ⟨.func (.func f) (first.map a.eval).toArray (captured.map a.eval).toArray, fun w' L => by simp [execOp, Instr.makeFunc], by unfold Reps; exact ⟨_, _, rfl, evs hr first, evs hr captured⟩⟩) hs h
theorem AOPS_nilCheck {id : Int} {off : Nat} (hx : aev sl x = .ptr id off) (hs : aput sl dst (.ptr id off) = sl') (h : AOPS P ops r sl' σ Q) : AOPS P ops (⟨dst, .nilCheck x, ty, pos, after, none⟩ :: r) sl σ Q :=
  AOPS_pure (av := .ptr id off) rfl (fun M a w hr => by
    have h1 := ev1 hr hx
    have h2 := h1
    unfold Reps at h1
    obtain ⟨b, h0, h1⟩ := h1
    exact ⟨.pointer (some ⟨b, off, none⟩), fun w' L => by simp [execOp, h1], by rw [← h1]; exact h2⟩) hs h
end Go.Proofs.Ytnjkklkjlloedaa
/-! The abstract machine: objects: new ones, loads, stores. -/
namespace Go.Proofs.Ytnjkklkjlloedaa
open Go.RowKit
set_option linter.unusedVariables false
set_option linter.unusedSimpArgs false

variable {base : Nat} {Fi : Int → Prop} {M M' M'' : MM} {w w' w'' : World}
variable {P : Program} {ops : Array Oper} {r : List Oper} {sl sl' : List AV} {σ σ' : ASt} {Q : Exit → List AV → ASt → Prop}
variable {d : Tmp} {dst : Option Tmp} {ty : TypeId} {pos : String} {after : Array Edge} {x y z : Operand} {gd : Option (Nat × Bool)} {op : Op}

/-- An operation that may turn memory. -/
def EffOk (P : Program) (o : Oper) (sl : List AV) (σ : ASt) (av : AV) (σ' : ASt) : Prop := ∀ base Fi M a w, Rel base Fi M a w sl σ → ∃ v w' M', ((execOp a.eval o).run P w = .ok (.value v) w' ∨ ((execOp a.eval o).run P w = .ok .skip w' ∧ v = undef)) ∧ Reps M' w' av v ∧ St base Fi M' w' σ' ∧ Stp base Fi M w M' w'
theorem AOPS_eff {o : Oper} {av : AV} (hg : o.guard = none) (ho : EffOk P o sl σ av σ') (hs : aput sl o.dst av = sl') (h : AOPS P ops r sl' σ' Q) : AOPS P ops (o :: r) sl σ Q := by
  intro base Fi M0 w0 M a w hst hr
  refine wpList_plain hg fun K hK => ?_
  obtain ⟨v, w', M', hrun, hv, hS, hT⟩ := ho base Fi M a w hr
  have hgo : K (a.put o.dst v) w' := by
    refine hK _ _ (h base Fi M0 w0 M' _ w' (hst.trans hT) ⟨?_, ?_, hS⟩)
    · cases o.dst <;> exact hr.1
    · rw [← hs]; exact aput_reps (RepsL.stp hT _ _ hr.2.1) o.dst hv
  unfold Oper.wp
  rcases hrun with hrun | ⟨hrun, rfl⟩ <;> rw [hrun] <;> exact hgo

/-! ### A new object -/
def MM.obj (M : MM) (id : Int) (b : Nat) : MM := ⟨fun i => if i = id then some b else M.ob i, M.tk, M.fz⟩
theorem cell_lt {w : World} {b j : Nat} {v : Value} (h : w.cell? ⟨b, j, none⟩ = some v) : b < w.heap.size := World.block_lt_of_cell? w ⟨b, j, none⟩ h
theorem stab_obj (S : St base Fi M w σ) {b j : Nat} (hs : stab M b j) (hb : b < w.heap.size) : stab (M.obj σ.next w.heap.size) b j := by
  refine ⟨fun id => ?_, hs.2⟩
  simp only [MM.obj]
  split
  · intro h; cases h; omega
  · exact hs.1 id
theorem Stp.newObj (S : St base Fi M w σ) (o : Obj) : Stp base Fi M w (M.obj σ.next w.heap.size) (w.alloc o) := by
  refine ⟨rfl, rfl, rfl, by simp, fun k hk => Below.heap_alloc _ _ _ (by have := S.base_le; omega), ?_, fun id T h => ⟨T, h, rfl, .inl rfl⟩, ?_, ?_, fun _ _ h => h, ?_⟩
  · intro id b hb
    simp only [MM.obj]
    rw [if_neg]
    · exact hb
    · rintro rfl; rw [(S.fresh _ (Int.le_refl _)).1] at hb; cases hb
  · intro b j v hs hc
    have hlt := cell_lt hc
    exact ⟨(World.cell?_of_block (w := w) (Below.heap_alloc w o b hlt)).trans hc, stab_obj S hs hlt⟩
  · intro id b _ hb; exact Below.heap_alloc w o b (S.obsz id b hb)
  · intro id T b e ce _ hT hb; exact Below.heap_alloc w o b (S.tksz id T b e ce hT hb)
theorem St.newObj (S : St base Fi M w σ) {cells : List AV} {vs : Array Value} (h : RepsL M w cells vs.toList) (e : TypeId) : St base Fi (M.obj σ.next w.heap.size) (w.alloc (.cells vs e)) ⟨(σ.next, cells) :: σ.objs, σ.toks, σ.next + 1⟩ := by
  have T := Stp.newObj S (.cells vs e)
  have hsz : (w.alloc (.cells vs e)).heap.size = w.heap.size + 1 := by simp
  refine ⟨by have := S.base_le; omega, ?_, ?_, fun id sh kvs hl => ⟨(S.mps id sh kvs hl).1, (S.mps id sh kvs hl).2.stp T fun b o h1 h2 _ => by rw [Below.heap_alloc w _ b (S.obsz id b h1)]; exact h2⟩, ?_, ?_, S.tinj, ?_, ?_, ?_⟩
  · intro id cs hl
    simp only [alook] at hl
    split at hl
    · rename_i he
      subst he
      cases hl
      refine ⟨(S.fresh _ (Int.le_refl _)).2.2, w.heap.size, vs, (e, false), by simp [MM.obj], S.base_le, heap_alloc_new w _, RepsL.stp T _ _ h⟩
    · rename_i he
      obtain ⟨h1, b, us, e', h2, h3, h4, h5⟩ := S.obs id cs hl
      exact ⟨h1, b, us, e', T.ob _ _ h2, h3, by rw [Below.heap_alloc w _ b (S.obsz id b h2)]; exact h4, RepsL.stp T _ _ h5⟩
  · intro id top hl
    obtain ⟨h1, Tk, h2, h3, h4⟩ := S.tks id top hl
    refine ⟨h1, Tk, h2, h3, fun b e2 ce hb => ?_⟩
    obtain ⟨h5, h6⟩ := h4 b e2 ce hb
    have hlt := S.tksz id Tk b e2 ce h2 hb
    have hB := Below.heap_alloc w (.cells vs e) b hlt
    exact ⟨h5, h6.heap hB⟩
  · intro id id' b h1 h2
    simp only [MM.obj] at h1 h2
    split at h1 <;> split at h2
    · omega
    · rename_i e1 e2; cases h1; have := S.obsz id' _ h2; omega
    · rename_i e1 e2; cases h2; have := S.obsz id _ h1; omega
    · exact S.inj id id' b h1 h2
  · intro id id' b T e ce h1 h2 h3
    simp only [MM.obj] at h1
    split at h1
    · cases h1; have := S.tksz id' T _ e ce h2 h3; omega
    · exact S.dis id id' b T e ce h1 h2 h3
  · intro id b h1
    rw [hsz]
    simp only [MM.obj] at h1
    split at h1
    · cases h1; omega
    · have := S.obsz id b h1; omega
  · intro id T b e ce h1 h2
    rw [hsz]; have := S.tksz id T b e ce h1 h2; omega
  · intro id hid
    have hid' : σ.next + 1 ≤ id := hid
    obtain ⟨h1, h2⟩ := S.fresh id (by omega)
    refine ⟨?_, h2⟩
    simp only [MM.obj]
    rw [if_neg (by omega)]; exact h1
theorem Reps.newPtr (o : Obj) : Reps (M.obj σ.next w.heap.size) (w.alloc o) (.ptr σ.next 0) (.pointer (some ⟨w.heap.size, 0, none⟩)) := by
  unfold Reps
  exact ⟨w.heap.size, by simp [MM.obj], rfl⟩
/-- A value of one cell, or a row of such. -/
def AV.flat : AV → Bool
  | .agg cs => cs.all AV.one
  | a => a.one
theorem Reps.flat {a : AV} {v : Value} (h : Reps M w a v) (ha : a.flat = true) : RepsL M w a.cells v.cells.toList := by
  refine h.cells ?_
  cases a <;> first | exact .inr ⟨_, rfl⟩ | exact .inl ha
theorem RepsL.ones : ∀ {cs : List AV} {vs : List Value}, RepsL M w cs vs → cs.all AV.one = true → ∀ v ∈ vs, v.oneCell' = true
  | [], vs, h, _, v, hv => by unfold RepsL at h; subst h; cases hv
  | a :: cs, vs, h, ha, v, hv => by
    unfold RepsL at h
    obtain ⟨u, ur, rfl, h2, h3⟩ := h
    simp only [List.all_cons, Bool.and_eq_true] at ha
    cases hv with
    | head => exact h2.one ha.1
    | tail _ hv => exact RepsL.ones h3 ha.2 v hv
theorem AV.flat_cells {a : AV} (ha : a.flat = true) : a.cells.all AV.one = true := by
  cases a <;> first | exact ha | (simp only [AV.cells, List.all_cons, List.all_nil, Bool.and_true]; exact ha)
theorem AOPS_box {t : TypeId} {av : AV} (hx : aev sl x = av) (hf : av.flat = true) (hs : aput sl dst (.ptr σ.next 0) = sl') (h : AOPS P ops r sl' ⟨(σ.next, av.cells) :: σ.objs, σ.toks, σ.next + 1⟩ Q) : AOPS P ops (⟨dst, .box t x, ty, pos, after, none⟩ :: r) sl σ Q :=
  AOPS_eff (av := .ptr σ.next 0) rfl (fun base Fi M a w hr => by
    have h1 := (ev1 hr.2.1 hx).flat hf
    refine ⟨.pointer (some ⟨w.heap.size, 0, none⟩), w.alloc (.cells (a.eval x).cells t), _, .inl ?_, Reps.newPtr _, St.newObj hr.2.2 h1 t, Stp.newObj hr.2.2 _⟩
    simp [execOp, Instr.box, newVar, newRow]) hs h
/-- The zero value of a type: its cells. -/
class TyZero (P : Program) (t : TypeId) (agg : outParam Bool) (zs : outParam (List Value)) : Prop where
  zero : ∃ i z, P.info? t = some i ∧ i.zero = some z ∧ z.cells.toList = zs ∧ (match z with | .agg _ => agg = true | _ => agg = false)
theorem cavs_reps : ∀ (zs : List Value), RepsL M w (zs.map cav) zs
  | [] => RepsL.nil
  | v :: zs => RepsL.cons (cav_reps v) (cavs_reps zs)
theorem TyZero.run {t : TypeId} {agg : Bool} {zs : List Value} [T : TyZero P t agg zs] (w : World) : ∃ z, (zeroValue t).run P w = .ok z w ∧ z.cells.toList = zs := by
  obtain ⟨i, z, h1, h2, h3, _⟩ := T.zero
  exact ⟨z, by simp [zeroValue, typeInfo, h1, h2], h3⟩
theorem AOPS_alloc {t : TypeId} {agg : Bool} {zs : List Value} [T : TyZero P t agg zs] {cs : List AV} (hc : zs.map cav = cs) (hs : aput sl dst (.ptr σ.next 0) = sl') (h : AOPS P ops r sl' ⟨(σ.next, cs) :: σ.objs, σ.toks, σ.next + 1⟩ Q) : AOPS P ops (⟨dst, .alloc t, ty, pos, after, none⟩ :: r) sl σ Q :=
  AOPS_eff (av := .ptr σ.next 0) rfl (fun base Fi M a w hr => by
    obtain ⟨z, hz, hzs⟩ := T.run w
    have h1 : RepsL M w cs z.cells.toList := by rw [hzs, ← hc]; exact cavs_reps zs
    refine ⟨.pointer (some ⟨w.heap.size, 0, none⟩), w.alloc (.cells z.cells t), _, .inl ?_, Reps.newPtr _, St.newObj hr.2.2 h1 t, Stp.newObj hr.2.2 _⟩
    simp [execOp, Instr.alloc, hz, newVar, newRow]) hs h

/-! ### Loads and stores -/
theorem AOPS_load {t : TypeId} {agg : Bool} {sz off : Nat} {id : Int} {cells : List AV} {av : AV} (hx : aev sl x = .ptr id off) [T : TyVar P t agg sz] (ho : alook σ.objs id = some cells) (hp : aload agg sz cells off = some av) (hs : aput sl dst av = sl') (h : AOPS P ops r sl' σ Q) : AOPS P ops (⟨dst, .load t x, ty, pos, after, none⟩ :: r) sl σ Q :=
  AOPS_eff (av := av) rfl (fun base Fi M a w hr => by
    have h1 := ev1 hr.2.1 hx
    unfold Reps at h1
    obtain ⟨b, h0, h1⟩ := h1
    obtain ⟨_, b', vs, e, h2, _, h4, h5⟩ := hr.2.2.obs id cells ho
    rw [h0] at h2; cases h2
    obtain ⟨v, h6, h7⟩ := loadVar_ok (b := b) (o := 0) (L := fun w' => w' = w) T h5 (fun w' hw j u hu => by subst hw; rw [cell_of_row w' _ _ _ _ _ h4]; simpa using hu) hp
    replace h6 := h6 w rfl
    rw [Nat.zero_add] at h6
    exact ⟨v, w, M, .inl (by simp [execOp, h1, Instr.loadAt, Instr.sureAddr, h6]), h7, hr.2.2, Stp.refl _ _ _ _⟩) hs h
/-- Cells written, one behind the other, where nothing is frozen. -/
theorem run_storeCells_free (P : Program) (g o : Nat) (t : TypeId) (fz : Nat × Nat) : ∀ (vs : List Value) (i : Nat) (cur : Array Value) (w : World), w.heap[g]? = some (.cells cur t fz) → (∀ j, j < cur.size → ¬ (fz.1 ≤ j ∧ j < fz.2)) → o + i + vs.length ≤ cur.size → (∀ v ∈ vs, v.oneCell' = true) →
    (storeCells ⟨g, o, none⟩ vs i).run P w = .ok () (w.setRow g (cur.toList.take (o + i) ++ vs ++ cur.toList.drop (o + i + vs.length)).toArray)
  | [], i, cur, w, hg, _, _, _ => by
    simp only [storeCells, List.append_nil, List.length_nil, Nat.add_zero, List.take_append_drop, Array.toArray_toList]
    rw [setRow_self w g cur t fz hg]
    rfl
  | v :: rest, i, cur, w, hg, hf, hl, h1 => by
    have hi : o + i < cur.size := by simp at hl; omega
    have hadd : (⟨g, o, none⟩ : Addr).add i = ⟨g, o + i, none⟩ := by unfold Addr.add; split <;> simp_all
    have hcell : w.cell? ⟨g, o + i, none⟩ = some cur[o + i] := by simp [World.cell?, hg, hi]
    have hfro : w.frozen? ⟨g, o + i, none⟩ = false := by
      have := hf (o + i) hi
      simp only [World.frozen?, hg, Bool.and_eq_false_iff, decide_eq_false_iff_not]
      omega
    have hst : (store ((⟨g, o, none⟩ : Addr).add i) v).run P w = .ok () (w.setRow g (cur.setIfInBounds (o + i) v)) := by
      rw [hadd, run_store P w _ v _ (h1 v (by simp)), hcell]
      simp [hfro, setCell_eq_setRow w g (o + i) cur t fz v hg]
    have ih := run_storeCells_free P g o t fz rest (i + 1) (cur.setIfInBounds (o + i) v) (w.setRow g (cur.setIfInBounds (o + i) v)) (setRow_heap w g cur _ t _ hg) (fun j hj => hf j (by simpa using hj)) (by simp at hl ⊢; omega) (fun x hx => h1 x (by simp [hx]))
    simp only [storeCells, Sem.run_bind, hst, Result.andThen_ok, ih, setRow_setRow]
    congr 3
    have e := list_seg_step cur.toList (o + i) v rest (by simp at hl ⊢; omega)
    simpa [Array.toList_setIfInBounds, Nat.add_assoc] using e
/-- A row of cells, some of them written. -/
def acut (cells : List AV) (off : Nat) (vs : List AV) : List AV := cells.take off ++ vs ++ cells.drop (off + vs.length)
theorem Stp.store (S : St base Fi M w σ) {id : Int} {b : Nat} {e : TypeId} {fr : Nat × Nat} {cur : Array Value} (hb : M.ob id = some b) (hF : ¬ Fi id) (hZ : ¬ M.fz id) (hbase : base ≤ b) (hg : w.heap[b]? = some (.cells cur e fr)) (vs : Array Value) : Stp base Fi M w M (w.setRow b vs) := by
  refine ⟨rfl, rfl, rfl, by simp [World.setRow], fun k hk => setRow_other w b k _ (by omega), fun _ _ h => h, fun id T h => ⟨T, h, rfl, .inl rfl⟩, ?_, ?_, fun _ _ h => h, ?_⟩
  · intro c j v hs hc
    have hne : c ≠ b := by rintro rfl; exact hZ (hs.1 id hb)
    exact ⟨(World.cell?_of_block (w := w) (a := ⟨c, j, none⟩) (setRow_other w b c vs hne)).trans hc, hs⟩
  · intro id' c hf hc
    refine setRow_other w b c vs ?_
    rintro rfl
    exact hF (S.inj id id' c hb hc ▸ hf)
  · intro id' T c e' ce hf hT hc
    refine setRow_other w b c vs ?_
    rintro rfl
    exact S.dis id id' c T e' ce hb hT hc
theorem St.store (S : St base Fi M w σ) {id : Int} {b : Nat} {e : TypeId × Bool} {cur : Array Value} {cells : List AV} (ho : alook σ.objs id = some cells) (hb : M.ob id = some b) (hbase : base ≤ b) (hg : w.heap[b]? = some (.cells cur e.1 (nfz cur.size e.2))) {cells' : List AV} {vs : Array Value} (hsz : vs.size = cur.size) (hr : RepsL M w cells' vs.toList) : St base Fi M (w.setRow b vs) ⟨aset σ.objs id cells', σ.toks, σ.next⟩ := by
  have hF := (S.obs id cells ho).1
  have T := Stp.store S hb hF.1 hF.2 hbase hg vs
  refine ⟨by simpa [World.setRow] using S.base_le, ?_, ?_, fun id' sh kvs hl => ⟨(S.mps id' sh kvs hl).1, (S.mps id' sh kvs hl).2.stp T fun c o h1 h2 h3 => by rw [setRow_other w b c vs (by rintro rfl; rw [hg] at h2; exact h3 _ _ _ (Option.some.inj h2).symm)]; exact h2⟩, S.inj, S.dis, S.tinj, by simpa [World.setRow] using S.obsz, by simpa [World.setRow] using S.tksz, S.fresh⟩
  · intro id' cs hl
    simp only [alook_aset] at hl
    split at hl
    · rename_i he
      subst he
      rw [ho] at hl
      cases hl
      exact ⟨hF, b, vs, e, hb, hbase, by rw [hsz]; exact setRow_heap w b cur vs e.1 _ hg, RepsL.stp T _ _ hr⟩
    · rename_i he
      obtain ⟨h1, c, us, e', h2, h3, h4, h5⟩ := S.obs id' cs hl
      refine ⟨h1, c, us, e', h2, h3, ?_, RepsL.stp T _ _ h5⟩
      rw [setRow_other w b c vs (by rintro rfl; exact he (S.inj id id' c hb h2))]
      exact h4
  · intro id' top hl
    obtain ⟨h1, Tk, h2, h3, h4⟩ := S.tks id' top hl
    refine ⟨h1, Tk, h2, h3, fun c e' ce hc => ?_⟩
    obtain ⟨h5, h6⟩ := h4 c e' ce hc
    have hB := setRow_other w b c vs (by rintro rfl; exact S.dis id id' c Tk e' ce hb h2 hc)
    exact ⟨h5, h6.heap hB⟩
theorem AOPS_store {t : TypeId} {agg : Bool} {sz off : Nat} {id : Int} {cells : List AV} {av : AV} {vs : List AV} {objs' : List (Int × List AV)} (hx : aev sl x = .ptr id off) (hy : aev sl y = av) [T : TyVar P t agg sz] (ho : alook σ.objs id = some cells) (hc : av.cells = vs) (hf : vs.all AV.one = true) (hfl : av.flat = true) (hsz : vs.length = sz) (hle : off + sz ≤ cells.length) (hob : aset σ.objs id (acut cells off vs) = objs') (hs : aput sl dst .und = sl') (h : AOPS P ops r sl' ⟨objs', σ.toks, σ.next⟩ Q) : AOPS P ops (⟨dst, .store t x y, ty, pos, after, none⟩ :: r) sl σ Q :=
  AOPS_eff (av := .und) rfl (fun base Fi M a w hr => by
    have h1 := ev1 hr.2.1 hx
    have h2 := (ev1 hr.2.1 hy).flat hfl
    unfold Reps at h1
    obtain ⟨b, h0, h1⟩ := h1
    obtain ⟨_, b', cur, e, h3, hbase, h4, h5⟩ := hr.2.2.obs id cells ho
    rw [h0] at h3; cases h3
    rw [hc] at h2
    have hl := h2.length
    have hl2 := h5.length
    have hone := h2.ones hf
    have hrun := run_storeCells_free P b off e.1 _ (a.eval y).cells.toList 0 cur w h4 (fun j hj => nfz_free _ _ j hj) (by rw [hl]; simp at hl2; omega) hone
    have h6 := T.sizeOf w
    subst hob
    refine ⟨undef, _, M, .inr ⟨?_, rfl⟩, by unfold Reps; rfl, St.store hr.2.2 ho h0 hbase h4 (cells' := acut cells off vs) (vs := (cur.toList.take (off + 0) ++ (a.eval y).cells.toList ++ cur.toList.drop (off + 0 + (a.eval y).cells.toList.length)).toArray) (by have h9 : off + 0 + (a.eval y).cells.toList.length ≤ cur.size := (by rw [hl]; simp at hl2; omega); simp only [List.size_toArray, List.length_append, List.length_take, List.length_drop, Array.length_toList] at h9 ⊢; omega) ?_, Stp.store hr.2.2 h0 (hr.2.2.obs id cells ho).1.1 (hr.2.2.obs id cells ho).1.2 hbase h4 _⟩
    · have hsz' : (a.eval y).cells.size = sz := by have : (a.eval y).cells.size = (a.eval y).cells.toList.length := by simp
                                                   rw [this, hl, hsz]
      simp only [execOp, h1, Instr.storeAt, Instr.sureAddr, storeVar, Sem.run_bind, Sem.run_pure, Result.andThen_ok, h6, hsz', ne_eq, not_true_eq_false, if_false, hrun]
    · simp only [acut, Nat.add_zero]
      have := ((h5.take off).append h2).append (h5.drop (off + vs.length))
      rw [hl]
      exact this) hs h
end Go.Proofs.Ytnjkklkjlloedaa
/-! The abstract machine: slices: literals, append, bytes of a text, make, copy; struct literals. -/
namespace Go.Proofs.Ytnjkklkjlloedaa
open Go.RowKit
set_option linter.unusedVariables false
set_option linter.unusedSimpArgs false

variable {base : Nat} {Fi : Int → Prop} {M M' M'' : MM} {w w' w'' : World}
variable {P : Program} {ops : Array Oper} {r : List Oper} {sl sl' : List AV} {σ σ' : ASt} {Q : Exit → List AV → ASt → Prop}
variable {d : Tmp} {dst : Option Tmp} {ty : TypeId} {pos : String} {after : Array Edge} {x y z : Operand} {gd : Option (Nat × Bool)} {op : Op}

/-! ### Worlds that only grow -/
structure Grew (w w' : World) : Prop where
  os : w'.os = w.os
  tape : w'.tape = w.tape
  output : w'.output = w.output
  size : w.heap.size ≤ w'.heap.size
  old : ∀ b, b < w.heap.size → w'.heap[b]? = w.heap[b]?
theorem Grew.alloc (w : World) (o : Obj) : Grew w (w.alloc o) := ⟨rfl, rfl, rfl, by simp, fun b hb => Below.heap_alloc w o b hb⟩
theorem Grew.drew_alloc (w : World) (o : Obj) : Grew w (w.drew.alloc o) := ⟨rfl, rfl, rfl, by simp, fun b hb => Below.heap_alloc w.drew o b hb⟩
theorem Grew.refl (w : World) : Grew w w := ⟨rfl, rfl, rfl, Nat.le_refl _, fun _ _ => rfl⟩
theorem Below.grew {w w' : World} (h : Below w.heap.size w w') : Grew w w' := ⟨h.os, h.tape, h.output, h.size, h.block⟩
theorem Grew.stp (h : Grew w w') (S : St base Fi M w σ) : Stp base Fi M w M w' :=
  ⟨h.os, h.tape, h.output, h.size, fun k hk => h.old k (by have := S.base_le; omega), fun _ _ h => h, fun id T h => ⟨T, h, rfl, .inl rfl⟩, fun b j v hs hc => ⟨(World.cell?_of_block (w := w) (a := ⟨b, j, none⟩) (h.old b (cell_lt hc))).trans hc, hs⟩,
    fun id b _ hb => h.old b (S.obsz id b hb), fun _ _ h => h, fun id T b e ce _ hT hb => h.old b (S.tksz id T b e ce hT hb)⟩
theorem Grew.st (h : Grew w w') (S : St base Fi M w σ) : St base Fi M w' σ := by
  have T := h.stp S
  have hs := h.size
  refine ⟨by have := S.base_le; omega, ?_, ?_, fun id sh kvs hl => ⟨(S.mps id sh kvs hl).1, (S.mps id sh kvs hl).2.stp T fun b o h1 h2 _ => by rw [h.old b (S.obsz id b h1)]; exact h2⟩, S.inj, S.dis, S.tinj, fun id b hb => by have := S.obsz id b hb; omega, fun id T b e ce h1 h2 => by have := S.tksz id T b e ce h1 h2; omega, S.fresh⟩
  · intro id cs hl
    obtain ⟨h1, b, us, e', h2, h3, h4, h5⟩ := S.obs id cs hl
    exact ⟨h1, b, us, e', h2, h3, by rw [h.old b (S.obsz id b h2)]; exact h4, RepsL.stp T _ _ h5⟩
  · intro id top hl
    obtain ⟨h1, Tk, h2, h3, h4⟩ := S.tks id top hl
    refine ⟨h1, Tk, h2, h3, fun b e ce hb => ?_⟩
    obtain ⟨h5, h6⟩ := h4 b e ce hb
    have hB := h.old b (S.tksz id Tk b e ce h2 hb)
    exact ⟨h5, h6.heap hB⟩
/-- A block that nobody writes to. -/
theorem stab_new (S : St base Fi M w σ) {b : Nat} (hb : w.heap.size ≤ b) (j : Nat) : stab M b j :=
  ⟨fun id h => by have := S.obsz id b h; omega, fun id T e ce h1 h2 => by have := S.tksz id T b e ce h1 h2; omega⟩

/-! ### Buffers -/
def MM.tok (M : MM) (id : Int) (T : Tk) : MM := ⟨M.ob, fun i => if i = id then some T else M.tk i, M.fz⟩
theorem Grew.tok (h : Grew w w') (S : St base Fi M w σ) {id : Int} {T : Tk} (hid : id = σ.next ∨ ∃ T0, M.tk id = some T0 ∧ T.sz = T0.sz ∧ T0.top < T.top ∧ ¬ Fi id) (hb : ∀ b e ce, T.blk = some (b, e, ce) → w.heap.size ≤ b) : Stp base Fi M w (M.tok id T) w' := by
  refine ⟨h.os, h.tape, h.output, h.size, fun k hk => h.old k (by have := S.base_le; omega), fun _ _ h => h, ?_, ?_, fun id b _ hb => h.old b (S.obsz id b hb), fun _ _ h => h, fun id T b e ce _ hT hb => h.old b (S.tksz id T b e ce hT hb)⟩
  · intro i T1 h1
    by_cases hi : i = id
    · subst hi
      rcases hid with rfl | ⟨T0, h2, h3, h4, h5⟩
      · rw [(S.fresh _ (Int.le_refl _)).2.1] at h1; cases h1
      · rw [h2] at h1; cases h1
        exact ⟨T, by simp [MM.tok], h3, .inr ⟨h4, h5⟩⟩
    · exact ⟨T1, by simp [MM.tok, hi, h1], rfl, .inl rfl⟩
  · intro b j v hs hc
    have hlt := cell_lt hc
    refine ⟨(World.cell?_of_block (w := w) (a := ⟨b, j, none⟩) (h.old b hlt)).trans hc, hs.1, fun i T1 e ce h1 h2 => ?_⟩
    simp only [MM.tok] at h1
    split at h1
    · cases h1; have := hb b e ce h2; omega
    · exact hs.2 i T1 e ce h1 h2
theorem Grew.tok_st (h : Grew w w') (S : St base Fi M w σ) {id : Int} {T : Tk} (hid : id = σ.next ∨ ∃ T0, M.tk id = some T0 ∧ T.sz = T0.sz ∧ T0.top < T.top ∧ ¬ Fi id)
    (hb : ∀ b e ce, T.blk = some (b, e, ce) → w.heap.size ≤ b ∧ b < w'.heap.size ∧ Room w' b ce)
    {toks : List (Int × Tq)} {next : Int} (ht : ∀ i q, alook toks i = some q → (i = id ∧ q = .top T.top) ∨ (i ≠ id ∧ alook σ.toks i = some q)) (hn : σ.next ≤ next) (hn2 : id < next) : St base Fi (M.tok id T) w' ⟨σ.objs, toks, next⟩ := by
  have T1 := h.tok S hid (fun b e ce h => (hb b e ce h).1)
  have hs := h.size
  have hFi : ¬ Fi id := by
    rcases hid with rfl | ⟨_, _, _, _, h⟩
    · exact (S.fresh _ (Int.le_refl _)).2.2.1
    · exact h
  refine ⟨by have := S.base_le; omega, ?_, ?_, fun i sh kvs hl => ?mps, S.inj, ?_, ?_, fun id b hb => by have := S.obsz id b hb; omega, ?_, ?_⟩
  · intro id cs hl
    obtain ⟨h1, b, us, e', h2, h3, h4, h5⟩ := S.obs id cs hl
    exact ⟨h1, b, us, e', h2, h3, by rw [h.old b (S.obsz id b h2)]; exact h4, RepsL.stp T1 _ _ h5⟩
  · intro i top hl
    rcases ht i _ hl with ⟨rfl, h0⟩ | ⟨hne, hl'⟩
    · cases h0; exact ⟨hFi, T, by simp [MM.tok], rfl, fun b e ce hbk => ⟨by have := (hb b e ce hbk).1; have := S.base_le; omega, (hb b e ce hbk).2.2⟩⟩
    · obtain ⟨h1, Tk, h2, h3, h4⟩ := S.tks i top hl'
      refine ⟨h1, Tk, by simp [MM.tok, hne, h2], h3, fun b e ce hb => ?_⟩
      obtain ⟨h5, h6⟩ := h4 b e ce hb
      have hB := h.old b (S.tksz i Tk b e ce h2 hb)
      exact ⟨h5, h6.heap hB⟩
  case mps =>
    rcases ht i _ hl with ⟨_, h0⟩ | ⟨hne, hl'⟩
    · cases h0
    · exact ⟨(S.mps i sh kvs hl').1, (S.mps i sh kvs hl').2.stp T1 fun b o h1 h2 _ => by rw [h.old b (S.obsz i b h1)]; exact h2⟩
  · intro i i' b T2 e ce h1 h2 h3
    simp only [MM.tok] at h2
    split at h2
    · cases h2; have := (hb b e ce h3).1; have := S.obsz i b h1; omega
    · exact S.dis i i' b T2 e ce h1 h2 h3
  · intro i i' T2 T3 b e ce e' ce' h1 h2 h3 h4
    simp only [MM.tok] at h1 h2
    split at h1 <;> split at h2
    · omega
    · cases h1; have := (hb b e ce h3).1; have := S.tksz i' T3 b e' ce' h2 h4; omega
    · cases h2; have := (hb b e' ce' h4).1; have := S.tksz i T2 b e ce h1 h3; omega
    · exact S.tinj i i' T2 T3 b e ce e' ce' h1 h2 h3 h4
  · intro i T2 b e ce h1 h2
    simp only [MM.tok] at h1
    split at h1
    · cases h1; exact (hb b e ce h2).2.1
    · have := S.tksz i T2 b e ce h1 h2; omega
  · intro i hi
    have hi' : next ≤ i := hi
    obtain ⟨h1, h2, h3⟩ := S.fresh i (by omega)
    refine ⟨h1, ?_, h3⟩
    simp only [MM.tok]
    rw [if_neg (by omega)]; exact h2

/-- An append into a buffer's room. -/
theorem tape_setCells (g : Nat) : ∀ (vs : List Value) (o : Nat) (w : World), (w.setCells g o vs).tape = w.tape := by
  intro vs
  induction vs with
  | nil => intros; rfl
  | cons v r ih => intro o w; rw [World.setCells, ih]; rfl
theorem Room.setCell {w : World} {b ce : Nat} (h : Room w b ce) (a : Addr) (x : Value) : Room (w.setCell a x) b ce := by
  obtain ⟨vs, ty, h1, h2⟩ := h
  by_cases hb : b = a.block
  · subst hb
    refine ⟨if a.spot.isSome then vs else vs.setIfInBounds a.off x, ty, ?_, by split <;> simpa using h2⟩
    unfold World.setCell
    rw [Array.getElem?_modify, if_pos rfl, h1]
    rfl
  · exact ⟨vs, ty, by rw [← h1]; exact heap_setCell_other w a b x hb, h2⟩
theorem Room.setCells {b ce : Nat} (g : Nat) : ∀ (vs : List Value) (o : Nat) {w : World}, Room w b ce → Room (w.setCells g o vs) b ce
  | [], _, _, h => h
  | v :: vs, o, w, h => by rw [World.setCells]; exact Room.setCells g vs (o + 1) (h.setCell _ _)
theorem room_stp (S : St base Fi M w σ) {id : Int} {top b e ce m : Nat} {T : Tk} (ho : alook σ.toks id = some (.top top)) (hT : M.tk id = some T) (hb : T.blk = some (b, e, ce)) (news : List Value) (hm : 0 < m) : Stp base Fi M w (M.tok id ⟨T.sz, T.top + m, some (b, e + news.length, ce)⟩) (w.setCells b e news) := by
  obtain ⟨hF, T', h1, h2, h3⟩ := S.tks id top ho
  rw [hT] at h1; cases h1
  obtain ⟨h4, h5⟩ := h3 b e ce hb
  refine ⟨World.os_setCells _ _ _ _, tape_setCells _ _ _ _, World.output_setCells _ _ _ _, by rw [size_setCells]; exact Nat.le_refl _, fun k hk => ?_, fun _ _ h => h, ?_, ?_, ?_, fun _ _ h => h, ?_⟩
  · exact World.heap_setCells_other _ _ _ _ (by have := S.base_le; omega) (by omega)
  · intro i T1 h1
    by_cases hi : i = id
    · subst hi; rw [hT] at h1; cases h1
      exact ⟨⟨T.sz, T.top + m, some (b, e + news.length, ce)⟩, by simp [MM.tok], rfl, .inr ⟨Nat.lt_add_of_pos_right hm, hF⟩⟩
    · exact ⟨T1, by simp [MM.tok, hi, h1], rfl, .inl rfl⟩
  · intro c j v hs hc
    have hlt : c = b → j < e := by rintro rfl; exact hs.2 id T e ce hT hb
    refine ⟨?_, hs.1, fun i T1 e' ce' h1 h2 => ?_⟩
    · rw [World.cell?_setCells_out b news e w ⟨c, j, none⟩ (fun hcb _ => by simp at hcb ⊢; have := hlt hcb; omega)]; exact hc
    · simp only [MM.tok] at h1
      split at h1
      · cases h1; simp at h2; obtain ⟨rfl, rfl, rfl⟩ := h2; have := hlt rfl; omega
      · exact hs.2 i T1 e' ce' h1 h2
  · intro i c hf hc
    refine World.heap_setCells_other _ _ _ _ (S.obsz i c hc) ?_
    rintro rfl; exact S.dis i id c T e ce hc hT hb
  · intro i T1 c e' ce' hf h1 h2
    refine World.heap_setCells_other _ _ _ _ (S.tksz i T1 c e' ce' h1 h2) ?_
    rintro rfl; exact hF (S.tinj id i T T1 c e ce e' ce' hT h1 hb h2 ▸ hf)
theorem room_st (S : St base Fi M w σ) {id : Int} {top b e ce m : Nat} {T : Tk} (ho : alook σ.toks id = some (.top top)) (hT : M.tk id = some T) (hb : T.blk = some (b, e, ce)) (news : List Value) (hm : 0 < m) : St base Fi (M.tok id ⟨T.sz, T.top + m, some (b, e + news.length, ce)⟩) (w.setCells b e news) ⟨σ.objs, aset σ.toks id (.top (T.top + m)), σ.next⟩ := by
  have T1 := room_stp S ho hT hb news hm
  obtain ⟨hF, T', h1, h2, h3⟩ := S.tks id top ho
  rw [hT] at h1; cases h1
  obtain ⟨h4, h5⟩ := h3 b e ce hb
  refine ⟨by rw [size_setCells]; exact S.base_le, ?_, ?_, fun i sh kvs hl => ?mps, S.inj, ?_, ?_, by rw [size_setCells]; exact S.obsz, ?_, ?_⟩
  · intro i cs hl
    obtain ⟨h1, c, us, e', h6, h7, h8, h9⟩ := S.obs i cs hl
    exact ⟨h1, c, us, e', h6, h7, by rw [World.heap_setCells_other _ _ _ _ (S.obsz i c h6) (by rintro rfl; exact S.dis i id c T e ce h6 hT hb)]; exact h8, RepsL.stp T1 _ _ h9⟩
  · intro i top' hl
    simp only [alook_aset] at hl
    split at hl
    · rename_i he; subst he
      rw [ho] at hl; cases hl
      refine ⟨hF, ⟨T.sz, T.top + m, some (b, e + news.length, ce)⟩, by simp [MM.tok], rfl, fun c e' ce' hc => ?_⟩
      simp at hc; obtain ⟨rfl, rfl, rfl⟩ := hc
      exact ⟨h4, Room.setCells _ _ _ h5⟩
    · rename_i hne
      obtain ⟨h1, Tk, h6, h7, h8⟩ := S.tks i top' hl
      refine ⟨h1, Tk, by simp [MM.tok, Ne.symm hne, h6], h7, fun c e' ce' hc => ?_⟩
      obtain ⟨h9, h10⟩ := h8 c e' ce' hc
      exact ⟨h9, Room.setCells _ _ _ h10⟩
  case mps =>
    simp only [alook_aset] at hl
    split at hl
    · rw [ho] at hl; cases hl
    · exact ⟨(S.mps i sh kvs hl).1, (S.mps i sh kvs hl).2.stp T1 fun c o h1 h2 _ => by rw [World.heap_setCells_other _ _ _ _ (S.obsz i c h1) (by rintro rfl; exact S.dis i id c T e ce h1 hT hb)]; exact h2⟩
  · intro i i' c T2 e' ce' h1 h2 h3
    simp only [MM.tok] at h2
    split at h2
    · cases h2; simp at h3; obtain ⟨rfl, rfl, rfl⟩ := h3; exact S.dis i id b T e ce h1 hT hb
    · exact S.dis i i' c T2 e' ce' h1 h2 h3
  · intro i i' T2 T3 c e1 ce1 e2 ce2 h1 h2 h3 h4
    simp only [MM.tok] at h1 h2
    split at h1 <;> split at h2
    · omega
    · cases h1; simp at h3; obtain ⟨rfl, rfl, rfl⟩ := h3; rename_i hi _; subst hi; exact S.tinj _ i' T T3 b e ce e2 ce2 hT h2 hb h4
    · cases h2; simp at h4; obtain ⟨rfl, rfl, rfl⟩ := h4; rename_i _ hi; subst hi; exact S.tinj i _ T2 T b e1 ce1 e ce h1 hT h3 hb
    · exact S.tinj i i' T2 T3 c e1 ce1 e2 ce2 h1 h2 h3 h4
  · intro i T2 c e' ce' h1 h2
    rw [size_setCells]
    simp only [MM.tok] at h1
    split at h1
    · cases h1; simp at h2; obtain ⟨rfl, rfl, rfl⟩ := h2; exact S.tksz id T b e ce hT hb
    · exact S.tksz i T2 c e' ce' h1 h2
  · intro i hi
    obtain ⟨h1, h2, h3⟩ := S.fresh i hi
    refine ⟨h1, ?_, h3⟩
    simp only [MM.tok]
    rw [if_neg (by rintro rfl; rw [hT] at h2; cases h2)]; exact h2
end Go.Proofs.Ytnjkklkjlloedaa
/-! The abstract machine: append, slice and struct literals, bytes of a text, make. -/
namespace Go.Proofs.Ytnjkklkjlloedaa
open Go.RowKit
set_option linter.unusedVariables false
set_option linter.unusedSimpArgs false

variable {base : Nat} {Fi : Int → Prop} {M M' M'' : MM} {w w' w'' : World}
variable {P : Program} {ops : Array Oper} {r : List Oper} {sl sl' : List AV} {σ σ' : ASt} {Q : Exit → List AV → ASt → Prop}
variable {d : Tmp} {dst : Option Tmp} {ty : TypeId} {pos : String} {after : Array Edge} {x y z : Operand} {gd : Option (Nat × Bool)} {op : Op}

/-! ### What is appended -/
def SrcOk (P : Program) (sz : Nat) (tx : TypeId) (av : AV) (cells : List AV) (m : Nat) : Prop := ∀ M w v, Reps M w av v → ∃ news, Src P sz tx v m news w ∧ RepsL M w cells news
theorem SrcOk_sl {sz by_ : Nat} {tx e : TypeId} {own : AOwn} {cells : List AV} {m : Nat} (T : TySl P tx e sz by_) (hl : cells.length = m * sz) (h1 : cells.all AV.one = true) : SrcOk P sz tx (.sl own cells m) cells m := by
  intro M w v h
  unfold Reps at h
  obtain ⟨A, c, vs, rfl, h2, h3, h4, h5, h6, h7, _⟩ := h
  have hvl := h6.length
  refine ⟨vs, Rd.src (A := A) (n := m) (c := c) ⟨by omega, h2, h3, h4, h5.imp id fun ⟨b, o, hA, hm⟩ => ⟨b, o, hA, fun j u hu => (hm j u hu).1⟩⟩ T.und (h6.ones h1), h6⟩
theorem SrcOk_nils {sz by_ : Nat} {tx e : TypeId} (T : TySl P tx e sz by_) : SrcOk P sz tx .nils [] 0 := by
  intro M w v h
  unfold Reps at h
  subst h
  exact ⟨[], Src.ofNil w T.und 0, RepsL.nil⟩
theorem SrcOk_str {tx : TypeId} {s : List UInt8} (T : TyStr P tx) : SrcOk P 1 tx (.str s) (s.map bvA) s.length := by
  intro M w v h
  unfold Reps at h
  obtain ⟨rfl, _⟩ := h
  have := Src.ofString (P := P) w T.und ⟨s.toArray⟩
  rw [ba_size] at this
  have hb : byteCells ⟨s.toArray⟩ = bvs s := by simp only [byteCells, bvs]; rfl
  exact ⟨_, this, by rw [hb]; exact bvA_reps s⟩

theorem grow_core (S : St base Fi M w σ) {t e tx : TypeId} {sz by_ : Nat} [T : TySl P t e sz by_] {A : Option Addr} {n c m : Nat} {vs news : List Value} {cells cells2 : List AV} {xv : Value} (hn : n ≤ c) (hc : c ≤ maxLen)
    (h6 : n = 0 ∨ ∃ b o, A = some ⟨b, o, none⟩ ∧ Mem M w b o vs) (hA : A = none → c = 0) (h7 : RepsL M w cells vs) (hlen : cells.length = n * sz) (hsrc : Src P sz tx xv m news w) (h8 : RepsL M w cells2 news) (hgrow : c < n + m) (h63 : n + m ≤ maxLen) (hbytes : (n + m) * by_ ≤ 140737488355328)
    {id : Int} {top' : Nat} (hid : id = σ.next ∨ ∃ T0, M.tk id = some T0 ∧ sz = T0.sz ∧ T0.top < top' ∧ ¬ Fi id) {toks : List (Int × Tq)} {next : Int} (ht : ∀ i q, alook toks i = some q → (i = id ∧ q = .top top') ∨ (i ≠ id ∧ alook σ.toks i = some q)) (hnx : σ.next ≤ next) (hn2 : id < next) :
    ∃ v w' M', (Builtin.append_ #[t, tx] ty #[.slice A n c, xv]).run P w = .ok v w' ∧ Reps M' w' (.sl (.tok id top' sz) (cells ++ cells2) (n + m)) v ∧ St base Fi M' w' ⟨σ.objs, toks, next⟩ ∧ Stp base Fi M w M' w' := by
  obtain ⟨i, z, hi, hz, hsz, hby, hzs⟩ := T.info
  subst hsz hby
  have hvl : vs.length = n * i.size := by rw [h7.length, hlen]
  have hold : (Builtin.firstCells i.size n (.slice A n c)).run P w.drew = .ok vs.toArray w.drew := by
    cases A with
    | none =>
      have := hA rfl
      obtain rfl : n = 0 := by omega
      obtain rfl : vs = [] := List.eq_nil_of_length_eq_zero (by simpa using hvl)
      exact run_firstCells_none w.drew i.size 0 0 c
    | some a =>
      refine run_firstCells_some w.drew i.size n a n c vs hvl (fun j v hj => ?_)
      rcases h6 with rfl | ⟨b, o, hA', hm⟩
      · obtain rfl : vs = [] := List.eq_nil_of_length_eq_zero (by simpa using hvl)
        simp at hj
      · cases hA'; rw [addr_add]; exact (hm j v hj).1
  have hfit := growslice_fits (need := n + m) (old := c) (bytes := i.bytes) hgrow hbytes
  have hrun := run_append_grow_src w t tx ty e i z T.und hi hz A n c vs hold xv m news hsrc hgrow (by simp only [maxLen] at h63; omega) hfit
  have hge := grownCap_ge w (n + m) c e
  have hcm : grownCap w (n + m) c e ≤ maxLen := grownCap_le_maxLen w (n + m) c e h63
  generalize hcap : grownCap w (n + m) c e = cap at hrun hge hcm
  generalize hcs : ((vs ++ news).toArray ++ Builtin.zeroCells z.cells (cap - (n + m))) = CS at hrun
  have hsize : CS.size = cap * i.size := by
    subst hcs
    have hl : (vs ++ news).length = (n + m) * i.size := by rw [List.length_append, hvl, hsrc.newsLen, Nat.add_mul]
    simp only [Array.size_append, List.size_toArray, size_zeroCells, hzs, hl, ← Nat.add_mul]
    congr 1; omega
  have hnew : (w.drew.alloc (.cells CS e)).heap[w.heap.size]? = some (.cells CS e (0, 0)) := heap_alloc_new w.drew _
  have hcell : ∀ j, (w.drew.alloc (.cells CS e)).cell? ⟨w.heap.size, j, none⟩ = CS[j]? := fun j => by rw [World.cell?]; simp only [hnew]; rfl
  have hG := Grew.drew_alloc w (.cells CS e)
  have hlen2 : (cells ++ cells2).length = (n + m) * i.size := by rw [List.length_append, hlen, ← h8.length, hsrc.newsLen, Nat.add_mul]
  have hT := hG.tok S (id := id) (T := ⟨i.size, top', some (w.heap.size, (n + m) * i.size, cap * i.size)⟩) hid (fun b e' ce h => by cases h; exact Nat.le_refl _)
  refine ⟨_, _, M.tok id ⟨i.size, top', some (w.heap.size, (n + m) * i.size, cap * i.size)⟩, hrun, ?_, hG.tok_st S hid (fun b e' ce h => ?_) ht hnx hn2, hT⟩
  · unfold Reps
    refine ⟨_, cap, vs ++ news, rfl, hge, hcm, (fun h => by cases h), .inr ⟨w.heap.size, 0, rfl, fun j u hu => ?_⟩, (RepsL.stp hT _ _ h7).append (RepsL.stp hT _ _ h8), ?_, ?_⟩
    · rw [Nat.zero_add]
      have hj := (List.getElem?_eq_some_iff.1 hu).1
      refine ⟨?_, ?_, ?_⟩
      · rw [hcell, ← hcs, Array.getElem?_append_left (by simpa using hj)]
        simpa using hu
      · intro id' h; have := S.obsz id' _ h; omega
      · intro id' T2 e' ce h1 h2
        simp only [MM.tok] at h1
        split at h1
        · cases h1; simp at h2; obtain ⟨rfl, rfl⟩ := h2
          rw [List.length_append, hvl, hsrc.newsLen, ← Nat.add_mul] at hj; exact hj
        · have := S.tksz id' T2 _ e' ce h1 h2; omega
    · intro h0; exact List.eq_nil_of_length_eq_zero (by rw [hlen2, h0, Nat.zero_mul])
    · exact ⟨⟨i.size, top', some (w.heap.size, (n + m) * i.size, cap * i.size)⟩, by simp [MM.tok], rfl, Nat.le_refl _, hlen2, fun _ => ⟨0, rfl, by rw [Nat.zero_add]; exact hlen2, by simp⟩⟩
  · cases h
    exact ⟨Nat.le_refl _, by show w.heap.size < (w.heap.push _).size; simp, CS, e, hnew, by rw [hsize]; exact Nat.le_refl _⟩

/-- append onto what has no room: nil, or a slice whose capacity is its length. -/
theorem append_new (S : St base Fi M w σ) {t e tx : TypeId} {sz by_ : Nat} [T : TySl P t e sz by_] {A : Option Addr} {n m : Nat} {vs news : List Value} {cells cells2 : List AV} {xv : Value} (hc : n ≤ maxLen)
    (h6 : n = 0 ∨ ∃ b o, A = some ⟨b, o, none⟩ ∧ Mem M w b o vs) (hA : A = none → n = 0) (h7 : RepsL M w cells vs) (hlen : cells.length = n * sz) (hsrc : Src P sz tx xv m news w) (h8 : RepsL M w cells2 news) (h63 : n + m ≤ maxLen) (hbytes : (n + m) * by_ ≤ 140737488355328) :
    ∃ v w' M', (Builtin.append_ #[t, tx] ty #[.slice A n n, xv]).run P w = .ok v w' ∧ Reps M' w' (.sl (.tok σ.next (n + m) sz) (cells ++ cells2) (n + m)) v ∧ St base Fi M' w' ⟨σ.objs, (σ.next, .top (n + m)) :: σ.toks, σ.next + 1⟩ ∧ Stp base Fi M w M' w' := by
  have ht : ∀ i (q : Tq), alook ((σ.next, .top (n + m)) :: σ.toks) i = some q → (i = σ.next ∧ q = .top (n + m)) ∨ (i ≠ σ.next ∧ alook σ.toks i = some q) := by
    intro i top h
    simp only [alook] at h
    split at h
    · rename_i he; cases h; exact .inl ⟨he.symm, rfl⟩
    · rename_i he; exact .inr ⟨Ne.symm he, h⟩
  by_cases hm : m = 0
  · subst hm
    have hnews : news = [] := List.eq_nil_of_length_eq_zero (by have := hsrc.newsLen; omega)
    subst hnews
    have hc2 : cells2 = [] := List.eq_nil_of_length_eq_zero (by have := h8.length; simpa using this.symm)
    subst hc2
    obtain ⟨i, z, hi, hz, hsz, hby, hzs⟩ := T.info
    subst hsz
    have hT := (Grew.refl w).tok S (id := σ.next) (T := ⟨i.size, n + 0, none⟩) (.inl rfl) (fun b e' ce h => by cases h)
    refine ⟨_, w, M.tok σ.next ⟨i.size, n + 0, none⟩, run_append_nothing w t tx ty e i T.und hi A n n (Nat.le_refl _) xv hsrc, ?_, (Grew.refl w).tok_st S (.inl rfl) (fun b e' ce h => by cases h) ht (by omega) (by omega), hT⟩
    unfold Reps
    refine ⟨A, n, vs, rfl, by omega, hc, hA, ?_, by simpa using RepsL.stp hT _ _ h7, fun h0 => by rw [List.append_nil]; exact List.eq_nil_of_length_eq_zero (by rw [hlen]; simp at h0; rw [h0, Nat.zero_mul]), ?_⟩
    · rcases h6 with h0 | ⟨b, o, hA', hm⟩
      · exact .inl (by omega)
      · exact .inr ⟨b, o, hA', hm.stp hT⟩
    · exact ⟨⟨i.size, n + 0, none⟩, by simp [MM.tok], rfl, Nat.le_refl _, by simp [hlen], fun _ => by simp⟩
  · exact grow_core S (Nat.le_refl n) hc h6 hA h7 hlen hsrc h8 (by omega) h63 hbytes (.inl rfl) ht (by omega) (by omega)

theorem exec_append {a : Act} {t tx : TypeId} {u v xv : Value} {w w' : World} (hx : a.eval x = u) (hy : a.eval y = xv) (h : (Builtin.append_ #[t, tx] ty #[u, xv]).run P w = .ok v w') : (execOp a.eval ⟨dst, .call { callee := .builtin .append, args := #[x, y], argTypes := #[t, tx] }, ty, pos, after, none⟩).run P w = .ok (.value v) w' := by
  simp only [execOp, resolve, invoke, builtin, Sem.run_bind, Sem.run_pure, Result.andThen_ok, List.map_toArray, List.map_cons, List.map_nil, hx, hy, h]
theorem AOPS_append_nils {t e tx : TypeId} {sz by_ : Nat} {cells2 : List AV} {m : Nat} {av : AV} (hx : aev sl x = .nils) (hy : aev sl y = av) [T : TySl P t e sz by_] (hS : SrcOk P sz tx av cells2 m) (hb : m * by_ ≤ 140737488355328 ∧ m ≤ 1000000000000) (hs : aput sl dst (.sl (.tok σ.next m sz) cells2 m) = sl') (h : AOPS P ops r sl' ⟨σ.objs, (σ.next, .top m) :: σ.toks, σ.next + 1⟩ Q) : AOPS P ops (⟨dst, .call { callee := .builtin .append, args := #[x, y], argTypes := #[t, tx] }, ty, pos, after, none⟩ :: r) sl σ Q :=
  AOPS_eff (av := .sl (.tok σ.next m sz) cells2 m) rfl (fun base Fi M a w hr => by
    have h1 := ev1 hr.2.1 hx
    have h2 := ev1 hr.2.1 hy
    unfold Reps at h1
    obtain ⟨news, h3, h4⟩ := hS M w _ h2
    obtain ⟨v, w', M', h5, h6, h7, h8⟩ := append_new (ty := ty) hr.2.2 (A := none) (n := 0) (vs := []) (cells := []) (t := t) (by simp) (.inl rfl) (fun _ => rfl) RepsL.nil (by simp) h3 h4 (by simp only [maxLen]; omega) (by simpa using hb.1)
    simp only [Nat.zero_add, List.nil_append] at h6 h7
    exact ⟨v, w', M', .inl (exec_append h1 rfl h5), h6, h7, h8⟩) hs h
theorem AOPS_append_full {t e tx : TypeId} {sz by_ : Nat} {cells cells2 : List AV} {n m : Nat} {av : AV} (hx : aev sl x = .sl .full cells n) (hy : aev sl y = av) [T : TySl P t e sz by_] (hS : SrcOk P sz tx av cells2 m) (hl : cells.length = n * sz) (hb : (n + m) * by_ ≤ 140737488355328 ∧ n + m ≤ 1000000000000) (hs : aput sl dst (.sl (.tok σ.next (n + m) sz) (cells ++ cells2) (n + m)) = sl') (h : AOPS P ops r sl' ⟨σ.objs, (σ.next, .top (n + m)) :: σ.toks, σ.next + 1⟩ Q) : AOPS P ops (⟨dst, .call { callee := .builtin .append, args := #[x, y], argTypes := #[t, tx] }, ty, pos, after, none⟩ :: r) sl σ Q :=
  AOPS_eff (av := .sl (.tok σ.next (n + m) sz) (cells ++ cells2) (n + m)) rfl (fun base Fi M a w hr => by
    have h1 := ev1 hr.2.1 hx
    have h2 := ev1 hr.2.1 hy
    unfold Reps at h1
    obtain ⟨A, c, vs, h1, k2, k3, k4, k5, k6, k7, k8⟩ := h1
    simp only [OwnOk] at k8
    subst k8
    obtain ⟨news, h3, h4⟩ := hS M w _ h2
    obtain ⟨v, w', M', h5, h6, h7, h8⟩ := append_new (ty := ty) hr.2.2 (t := t) k3 k5 k4 k6 hl h3 h4 (by simp only [maxLen]; omega) hb.1
    exact ⟨v, w', M', .inl (exec_append h1 rfl h5), h6, h7, h8⟩) hs h
theorem E_append_tok {t e tx : TypeId} {sz by_ top : Nat} {id : Int} {cells cells2 : List AV} {n m : Nat} {av : AV} {toks' : List (Int × Tq)} (hx : aev sl x = .sl (.tok id top sz) cells n) (hy : aev sl y = av) [T : TySl P t e sz by_] (htk : alook σ.toks id = some (.top top)) (hS : SrcOk P sz tx av cells2 m) (hb : (n + m) * by_ ≤ 140737488355328 ∧ n + m ≤ 1000000000000) (ht : aset σ.toks id (.top (top + m)) = toks') : EffOk P ⟨dst, .call { callee := .builtin .append, args := #[x, y], argTypes := #[t, tx] }, ty, pos, after, none⟩ sl σ (.sl (.tok id (top + m) sz) (cells ++ cells2) (n + m)) ⟨σ.objs, toks', σ.next⟩ := fun base Fi M a w hr => by
    have h1 := ev1 hr.2.1 hx
    have h2 := ev1 hr.2.1 hy
    have S := hr.2.2
    subst ht
    unfold Reps at h1
    obtain ⟨A, c, vs, h1, k2, k3, k4, k5, k6, k7, T0, l1, l2, l3, l4, l5⟩ := h1
    obtain ⟨hF, T0', l6, l7, l8⟩ := S.tks id top htk
    rw [l1] at l6; cases l6
    have l5 := l5 l7.symm
    subst l2
    obtain ⟨news, h3, h4⟩ := hS M w _ h2
    have hnl := h3.newsLen
    have hidlt : id < σ.next := by
      refine Int.lt_of_not_ge fun hle => ?_
      rw [(S.fresh id hle).2.1] at l1; cases l1
    have htks : ∀ i (tp : Tq), alook (aset σ.toks id (.top (top + m))) i = some tp → (i = id ∧ tp = .top (top + m)) ∨ (i ≠ id ∧ alook σ.toks i = some tp) := by
      intro i tp h
      rw [alook_aset, htk] at h
      split at h
      · rename_i he; simp at h; exact .inl ⟨he.symm, h.symm⟩
      · rename_i he; exact .inr ⟨Ne.symm he, h⟩
    by_cases hm : m = 0
    · subst hm
      obtain rfl : news = [] := List.eq_nil_of_length_eq_zero (by omega)
      obtain rfl : cells2 = [] := List.eq_nil_of_length_eq_zero (by have := h4.length; simpa using this.symm)
      obtain ⟨i, z, hi, hz, hsz, hby, hzs⟩ := T.info
      rw [← hsz] at h3
      refine ⟨_, w, M, .inl (exec_append h1 rfl (run_append_nothing w t tx ty e i T.und hi A n c k2 _ h3)), ?_, ?_, Stp.refl _ _ _ _⟩
      · unfold Reps
        exact ⟨A, c, vs, rfl, k2, k3, k4, k5, by simpa using k6, by simpa using k7, T0, l1, rfl, by omega, by simpa using l4, fun _ => by simpa using l5⟩
      · refine ⟨S.base_le, S.obs, fun i tp h => ?_, fun i sh kvs h => ?_, S.inj, S.dis, S.tinj, S.obsz, S.tksz, S.fresh⟩
        · rcases htks i _ h with ⟨rfl, h0⟩ | ⟨_, h'⟩
          · cases h0; exact S.tks i _ htk
          · exact S.tks i tp h'
        · rcases htks i _ h with ⟨_, h0⟩ | ⟨_, h'⟩
          · cases h0
          · exact S.mps i sh kvs h'
    · by_cases hroom : n + m ≤ c
      · cases hblk : T0.blk with
        | none => rw [hblk] at l5; simp at l5; omega
        | some q =>
          obtain ⟨b, eo, ce⟩ := q
          rw [hblk] at l5
          obtain ⟨o, rfl, l9, l10⟩ := l5
          obtain ⟨l11, l12⟩ := l8 b eo ce hblk
          obtain ⟨i, z, hi, hz, hsz, hby, hzs⟩ := T.info
          have hle : o + n * T0.sz + news.length ≤ ce := by
            rw [hnl, ← l10, Nat.add_assoc, ← Nat.add_mul]; exact Nat.add_le_add_left (Nat.mul_le_mul_right _ hroom) _
          have heo : o + n * i.size = eo := by rw [hsz, ← l4]; exact l9
          have heo2 : o + n * T0.sz = eo := by rw [← l4]; exact l9
          have hle2 : eo + news.length ≤ ce := by rw [← heo2]; exact hle
          clear hle
          rw [← hsz] at h3
          have hrun := run_append_room_src w t tx ty e i T.und hi b o n c _ m news h3 hroom (fun j hj => by rw [heo]; exact (l12.cell (eo + j) (by omega)).1) (fun j hj => by rw [heo]; exact (l12.cell (eo + j) (by omega)).2)
          rw [heo] at hrun
          have hT := room_stp S htk l1 hblk news (m := m) (by omega)
          rw [l7] at hT
          have hSt := room_st S htk l1 hblk news (m := m) (by omega)
          rw [l7] at hSt
          refine ⟨_, _, _, .inl (exec_append h1 rfl hrun), ?_, hSt, hT⟩
          unfold Reps
          have hmem : n = 0 ∨ Mem M w b o vs := k5.imp (fun h => h) fun ⟨b', o', hA, hm⟩ => by cases hA; exact hm
          refine ⟨_, c, vs ++ news, rfl, hroom, k3, (fun h => by cases h), .inr ⟨b, o, rfl, fun j u hu => ?_⟩, (RepsL.stp hT _ _ k6).append (RepsL.stp hT _ _ h4), fun h0 => by omega, ?_⟩
          · have hvl : vs.length = n * T0.sz := by rw [k6.length, l4]
            by_cases hj : j < vs.length
            · rw [List.getElem?_append_left hj] at hu
              rcases hmem with rfl | hmem
              · rw [Nat.zero_mul] at hvl; omega
              · exact hT.cell b (o + j) u (hmem j u hu).2 (hmem j u hu).1
            · rw [List.getElem?_append_right (by omega)] at hu
              have hj' := (List.getElem?_eq_some_iff.1 hu).1
              have hin := World.cell?_setCells_in b news eo w (fun q hq => (l12.cell (eo + q) (by omega)).1) (j - vs.length) hj'
              rw [show eo + (j - vs.length) = o + j by omega] at hin
              refine ⟨by rw [hin]; rw [List.getElem?_eq_getElem hj'] at hu; exact hu, ?_, ?_⟩
              · intro id' h; exact (S.dis id' id b T0 eo ce h l1 hblk).elim
              · intro id' T2 e' ce' g1 g2
                simp only [MM.tok] at g1
                split at g1
                · cases g1; simp at g2; obtain ⟨rfl, rfl⟩ := g2; omega
                · rename_i hne; exact absurd (S.tinj id' id T2 T0 b e' ce' eo ce g1 l1 g2 hblk) hne
          · refine ⟨⟨T0.sz, top + m, some (b, eo + news.length, ce)⟩, by simp [MM.tok], rfl, Nat.le_refl _, ?_, fun _ => ⟨o, rfl, ?_, l10⟩⟩
            · simp only [List.length_append, l4, ← h4.length, hnl, Nat.add_mul]
            · simp only [List.length_append, l4, ← h4.length]; omega
      · obtain ⟨v, w', M', h5, h6, h7, h8⟩ := grow_core (ty := ty) S (t := t) k2 k3 k5 k4 k6 l4 h3 h4 (by omega) (by simp only [maxLen]; omega) hb.1 (id := id) (top' := top + m) (.inr ⟨T0, l1, rfl, by omega, hF⟩) (toks := aset σ.toks id (.top (top + m))) (next := σ.next) htks (Int.le_refl _) hidlt
        exact ⟨v, w', M', .inl (exec_append h1 rfl h5), h6, h7, h8⟩
theorem AOPS_append_tok {t e tx : TypeId} {sz by_ top : Nat} {id : Int} {cells cells2 : List AV} {n m : Nat} {av : AV} {toks' : List (Int × Tq)} (hx : aev sl x = .sl (.tok id top sz) cells n) (hy : aev sl y = av) [T : TySl P t e sz by_] (htk : alook σ.toks id = some (.top top)) (hS : SrcOk P sz tx av cells2 m) (hb : (n + m) * by_ ≤ 140737488355328 ∧ n + m ≤ 1000000000000) (ht : aset σ.toks id (.top (top + m)) = toks') (hs : aput sl dst (.sl (.tok id (top + m) sz) (cells ++ cells2) (n + m)) = sl') (h : AOPS P ops r sl' ⟨σ.objs, toks', σ.next⟩ Q) : AOPS P ops (⟨dst, .call { callee := .builtin .append, args := #[x, y], argTypes := #[t, tx] }, ty, pos, after, none⟩ :: r) sl σ Q :=
  AOPS_eff (av := .sl (.tok id (top + m) sz) (cells ++ cells2) (n + m)) rfl (E_append_tok hx hy htk hS hb ht) hs h
end Go.Proofs.Ytnjkklkjlloedaa
/-! The abstract machine: slice and struct literals, bytes of a text, make, freezing a row. -/
namespace Go.Proofs.Ytnjkklkjlloedaa
open Go.RowKit
set_option linter.unusedVariables false
set_option linter.unusedSimpArgs false

variable {base : Nat} {Fi : Int → Prop} {M M' M'' : MM} {w w' w'' : World}
variable {P : Program} {ops : Array Oper} {r : List Oper} {sl sl' : List AV} {σ σ' : ASt} {Q : Exit → List AV → ASt → Prop}
variable {d : Tmp} {dst : Option Tmp} {ty : TypeId} {pos : String} {after : Array Edge} {x y z : Operand} {gd : Option (Nat × Bool)} {op : Op}

/-! ### Filling -/
def afill (place : Nat → Option (Nat × Nat)) : List AV → List (Nat × AV) → Option (List AV)
  | cells, [] => some cells
  | cells, (i, v) :: rest =>
    match place i with
    | none => none
    | some (off, size) => if v.flat = true ∧ v.cells.length = size ∧ off + v.cells.length ≤ cells.length then afill place (acut cells off v.cells) rest else none
theorem foldl_set (off : Nat) : ∀ (l : List Value) (k : Nat) (cur : Array Value), off + k + l.length ≤ cur.size → (l.zipIdx k).foldl (fun cs (p : Value × Nat) => cs.setIfInBounds (off + p.2) p.1) cur = (cur.toList.take (off + k) ++ l ++ cur.toList.drop (off + k + l.length)).toArray
  | [], k, cur, _ => by simp
  | v :: l, k, cur, h => by
    simp only [List.length_cons] at h
    simp only [List.zipIdx_cons, List.foldl_cons]
    rw [foldl_set off l (k + 1) _ (by simp; omega)]
    have e := list_seg_step cur.toList (off + k) v l (by simp; omega)
    simp only [Array.toList_setIfInBounds]
    rw [show off + (k + 1) = off + k + 1 by omega, e]
    simp
inductive PartsR (M : MM) (w : World) : List (Nat × AV) → List (Nat × Value) → Prop
  | nil : PartsR M w [] []
  | cons {i : Nat} {a : AV} {v : Value} {as_ : List (Nat × AV)} {vs : List (Nat × Value)} : Reps M w a v → PartsR M w as_ vs → PartsR M w ((i, a) :: as_) ((i, v) :: vs)
theorem afill_ok {place : Nat → Option (Nat × Nat)} : ∀ {ps : List (Nat × AV)} {pv : List (Nat × Value)} {cells cells' : List AV} {vs : Array Value}, RepsL M w cells vs.toList → PartsR M w ps pv → afill place cells ps = some cells' → ∃ vs' : Array Value, Instr.fill place vs pv = some vs' ∧ RepsL M w cells' vs'.toList
  | [], pv, cells, cells', vs, h, hp, hf => by
    cases hp
    simp only [afill, Option.some.injEq] at hf
    subst hf
    exact ⟨vs, rfl, h⟩
  | (i, a) :: ps, pv, cells, cells', vs, h, hp, hf => by
    cases hp with
    | cons ha hp =>
      rename_i v pv
      simp only [afill] at hf
      cases hpl : place i with
      | none => rw [hpl] at hf; cases hf
      | some q =>
        obtain ⟨off, size⟩ := q
        rw [hpl] at hf
        simp only at hf
        split at hf
        · rename_i hc
          obtain ⟨h1, h2, h3⟩ := hc
          have h4 := ha.flat h1
          have h5 := h4.length
          have h6 := h.length
          have h7 : v.cells.size = a.cells.length := by rw [← h5]; simp
          simp only [Array.length_toList] at h6
          have hfold := foldl_set off v.cells.toList 0 vs (by rw [Nat.add_zero, h5]; omega)
          have key : RepsL M w (acut cells off a.cells) (vs.toList.take (off + 0) ++ v.cells.toList ++ vs.toList.drop (off + 0 + v.cells.toList.length)) := by
            rw [Nat.add_zero, h5]
            exact ((h.take off).append h4).append (h.drop (off + a.cells.length))
          obtain ⟨vs', h8, h9⟩ := afill_ok (vs := (vs.toList.take (off + 0) ++ v.cells.toList ++ vs.toList.drop (off + 0 + v.cells.toList.length)).toArray) key hp hf
          refine ⟨vs', ?_, h9⟩
          unfold Instr.fill
          rw [hpl]
          simp only
          rw [if_neg (by simp; omega)]
          rw [← hfold] at h8
          rw [← h8]
          congr 1
          rw [← Array.foldl_toList]
          simp [Array.toList_zipIdx]
        · cases hf
def aparts (sl : List AV) (ps : List (Nat × Operand)) : List (Nat × AV) := ps.map fun p => (p.1, aev sl p.2)
theorem aparts_ok {a : Act} (hr : RepsL M w sl a.tmps.toList) : ∀ (ps : List (Nat × Operand)), PartsR M w (aparts sl ps) (ps.map fun p => (p.1, a.eval p.2))
  | [] => .nil
  | p :: ps => .cons (aev_reps hr p.2) (aparts_ok hr ps)

/-! ### Struct literals -/
class TyPlaces (P : Program) (t : TypeId) (pl : outParam (List (Nat × Nat))) : Prop where
  pl : ∃ fs, P.underlying t = some (.struct fs) ∧ ∀ w : World, (fs.mapM fun (f : Field) => (do pure (f.offset, ← sizeOf f.type) : Sem (Nat × Nat))).run P w = .ok pl.toArray w
theorem AOPS_build {t : TypeId} {agg : Bool} {zs : List Value} {pl : List (Nat × Nat)} {ps : List (Nat × Operand)} {aps : List (Nat × AV)} {cells : List AV} [T : TyPlaces P t pl] [Z : TyZero P t agg zs] (hp : aparts sl ps = aps) (hf : afill (fun i => pl[i]?) (zs.map cav) aps = some cells) (hs : aput sl dst (.agg cells) = sl') (h : AOPS P ops r sl' σ Q) : AOPS P ops (⟨dst, .build t ps.toArray, ty, pos, after, none⟩ :: r) sl σ Q :=
  AOPS_pure (av := .agg cells) rfl (fun M a w hr => by
    subst hp
    obtain ⟨fs, h1, h2⟩ := T.pl
    obtain ⟨i, z, k1, k2, hzs, _⟩ := Z.zero
    have hz : ∀ w : World, (zeroValue t).run P w = .ok z w := fun w => by simp [zeroValue, typeInfo, k1, k2]
    obtain ⟨vs', h3, h4⟩ := afill_ok (vs := z.cells) (by rw [hzs]; exact cavs_reps zs) (aparts_ok hr ps) hf
    refine ⟨.agg vs', fun w' L => ?_, by unfold Reps; exact ⟨_, rfl, h4⟩⟩
    have h5 := h2 w'
    have h3' : Instr.fill (fun x => pl.toArray[x]?) z.cells (ps.map fun p => (p.1, a.eval p.2)) = some vs' := by simpa using h3
    simp only [execOp, Instr.build, Sem.run_bind, hz, Result.andThen_ok, run_underlying h1, h5, List.map_toArray]
    rw [h3']
    rfl) hs h

/-! ### A row that was just made, and that nobody writes to -/
theorem Reps.newRow (S : St base Fi M w σ) {w1 : World} (hG : Grew w w1) {cells : List AV} {vs : List Value} {cs : Array Value} {e : TypeId} {fr : Nat × Nat} {n c : Nat} (hnew : w1.heap[w.heap.size]? = some (.cells cs e fr)) (hpre : ∀ (j : Nat) (u : Value), vs[j]? = some u → cs[j]? = some u) (h : RepsL M w cells vs) (hn : n ≤ c) (hc : c ≤ maxLen) (h0 : n = 0 → cells = []) {own : AOwn} (ho : OwnOk M own (some ⟨w.heap.size, 0, none⟩) n c cells.length) : Reps M w1 (.sl own cells n) (.slice (some ⟨w.heap.size, 0, none⟩) n c) := by
  have T := hG.stp S
  unfold Reps
  refine ⟨_, c, vs, rfl, hn, hc, (fun h => by cases h), .inr ⟨w.heap.size, 0, rfl, fun j u hu => ?_⟩, RepsL.stp T _ _ h, h0, ho.stp T⟩
  rw [Nat.zero_add]
  refine ⟨?_, stab_new S (Nat.le_refl _) j⟩
  simp only [World.cell?, hnew, Option.isSome_none, Bool.false_eq_true, if_false]
  exact hpre j u hu
def azeros (zs : List Value) (n : Nat) : List AV := (List.range n).map fun j => cav (zs.getD (j % zs.length) undef)
theorem azeros_ok {z : Array Value} {zs : List Value} (hz : z.toList = zs) (hp : 0 < zs.length) (n : Nat) : RepsL M w (azeros zs n) (madeCells z n).toList := by
  refine RepsL.of_get (by simp [azeros, madeCells]) fun j a v ha hv => ?_
  simp only [azeros, List.getElem?_map] at ha
  simp only [madeCells, Array.toList_map, Array.toList_range, List.getElem?_map] at hv
  by_cases hj : j < n
  · rw [List.getElem?_range hj] at ha hv
    simp only [Option.map_some, Option.some.injEq] at ha hv
    subst ha hv
    have hzl : z.size = zs.length := by rw [← hz]; simp
    have hlt : j % z.size < z.size := Nat.mod_lt _ (by omega)
    have e : z[j % z.size]! = zs.getD (j % zs.length) undef := by
      subst hz
      rw [List.getD_eq_getElem?_getD, ← hzl, Array.getElem?_toList, Array.getElem?_eq_getElem hlt, getElem!_pos z _ hlt]; rfl
    rw [e]
    exact cav_reps _
  · rw [List.getElem?_eq_none (by simpa using hj)] at ha; cases ha
theorem buildSlice_ok {t e : TypeId} {sz by_ : Nat} {agg : Bool} {zs : List Value} [T : TySl P t e sz by_] [Z : TyZero P e agg zs] {len : Nat} {ps : List (Nat × AV)} {pv : List (Nat × Value)} {cells : List AV} (hp : PartsR M w ps pv) (hlen : len * sz ≤ 16777216) (hf : afill (fun i => some (i * sz, sz)) (azeros zs (len * sz)) ps = some cells) (hzl : zs.length = sz) :
    ∃ vs : Array Value, (Instr.buildSlice t len pv.toArray).run P w = .ok (.slice (some ⟨w.heap.size, 0, none⟩) len len) (w.alloc (.cells vs e)) ∧ RepsL M w cells vs.toList := by
  obtain ⟨z, hz, hzs⟩ := Z.run w
  have hpos := T.pos
  obtain ⟨vs, h1, h2⟩ := afill_ok (vs := madeCells z.cells (len * sz)) (azeros_ok hzs (by omega) _) hp hf
  refine ⟨vs, ?_, h2⟩
  have hsz := T.sizeOf w
  have hn : ¬ (len * sz > 16777216) := by omega
  have hn2 : ¬ (2 ^ 24 < len * sz) := by simpa using hn
  unfold Instr.buildSlice
  simp only [Sem.run_bind, run_underlying T.und, Result.andThen_ok, hsz]
  rw [if_neg (by simpa using hn)]
  by_cases h0 : len * sz = 0
  · rw [h0] at h1
    have e1 : madeCells z.cells 0 = #[] := by simp [madeCells, Array.range_zero']
    rw [e1] at h1
    simp [h0, Array.range_zero', h1, newRow]
  · have e1 : (Array.range (len * sz)).map (fun x => z.cells[x % z.cells.size]!) = madeCells z.cells (len * sz) := rfl
    simp only [if_neg h0, Sem.run_bind, Sem.run_pure, hz, Result.andThen_ok, e1, h1]
    simp [newRow]
theorem AOPS_buildSlice {t e : TypeId} {sz by_ : Nat} {agg : Bool} {zs : List Value} [T : TySl P t e sz by_] [Z : TyZero P e agg zs] {len : Nat} {ps : List (Nat × Operand)} {aps : List (Nat × AV)} {cells : List AV} (hp : aparts sl ps = aps) (hf : afill (fun i => some (i * sz, sz)) (azeros zs (len * sz)) aps = some cells) (hzl : zs.length = sz) (hlen : len * sz ≤ 16777216 ∧ (len = 0 → cells = [])) (hs : aput sl dst (.sl .full cells len) = sl') (h : AOPS P ops r sl' σ Q) : AOPS P ops (⟨dst, .buildSlice t len ps.toArray, ty, pos, after, none⟩ :: r) sl σ Q :=
  AOPS_eff (av := .sl .full cells len) rfl (fun base Fi M a w hr => by
    subst hp
    obtain ⟨vs, h1, h2⟩ := buildSlice_ok (T := T) (Z := Z) (aparts_ok hr.2.1 ps) hlen.1 hf hzl
    have hG := Grew.alloc w (.cells vs e)
    have hpos := T.pos
    have hlm : len ≤ maxLen := by
      have : len * 1 ≤ len * sz := Nat.mul_le_mul_left _ hpos
      simp only [maxLen]; omega
    refine ⟨_, _, M, .inl ?_, Reps.newRow hr.2.2 hG (heap_alloc_new w _) (fun j u hu => by simpa using hu) h2 (Nat.le_refl len) hlm hlen.2 (by unfold OwnOk; rfl), hG.st hr.2.2, hG.stp hr.2.2⟩
    simp only [execOp, List.map_toArray, Sem.run_bind]
    rw [show (List.map (fun x => (x.1, a.eval x.2)) ps).toArray = (ps.map fun p => (p.1, a.eval p.2)).toArray from rfl, h1]
    rfl) hs h

/-! ### Bytes of a text -/
theorem Grew.drew_alloc_fr (w : World) (o : Obj) : Grew w (w.drew.alloc o) := Grew.drew_alloc w o
theorem AOPS_bytes {src t e : TypeId} {sz by_ : Nat} {s : List UInt8} (hx : aev sl x = .str s) [S0 : TyStr P src] [T : TySl P t e sz by_] [B : TyInt P e .u8] (hs : aput sl dst (.sl .none (s.map bvA) s.length) = sl') (h : AOPS P ops r sl' σ Q) : AOPS P ops (⟨dst, .convert src t x, ty, pos, after, none⟩ :: r) sl σ Q :=
  AOPS_eff (av := .sl .none (s.map bvA) s.length) rfl (fun base Fi M a w hr => by
    have h1 := ev1 hr.2.1 hx
    unfold Reps at h1
    obtain ⟨h1, h2⟩ := h1
    have h3 := run_bytes_of_string (P := P) w src t e ⟨s.toArray⟩ S0.und T.und B.und
    rw [ba_size] at h3
    have hge := grownCap_ge w s.length 0 e
    have hcm : grownCap w s.length 0 e ≤ maxLen := grownCap_le_maxLen w s.length 0 e h2
    have hG := Grew.drew_alloc w (.cells (bytesRow ⟨s.toArray⟩ (grownCap w s.length 0 e)) e ((bytesRow ⟨s.toArray⟩ (grownCap w s.length 0 e)).size, (bytesRow ⟨s.toArray⟩ (grownCap w s.length 0 e)).size + 1))
    refine ⟨_, _, M, .inl ?_, Reps.newRow hr.2.2 hG (heap_alloc_new w.drew _) (fun j u hu => ?_) (bvA_reps s) hge hcm (fun h0 => by simp [List.eq_nil_of_length_eq_zero h0]) trivial, hG.st hr.2.2, hG.stp hr.2.2⟩
    · simp only [execOp, h1, Sem.run_bind, h3, Result.andThen_ok, Sem.run_pure]
    · have hj := (List.getElem?_eq_some_iff.1 hu).1
      rw [bvs_length] at hj
      rw [bvs_get s j hj] at hu
      cases hu
      simp only [bytesRow]
      rw [Array.getElem?_append_left (by simpa using hj)]
      simp [hj, bv]) hs h

/-! ### make -/
theorem AOPS_make {t e : TypeId} {sz by_ : Nat} {agg : Bool} {zs : List Value} [T : TySl P t e sz by_] [Z : TyZero P e agg zs] {n : Nat} {k k' : IntKind} {i j : Int} (hx : aev sl x = .int k i) (hy : aev sl y = .int k' j) (hi : i = (n : Int)) (hj : j = (n : Int)) (hb : by_ * n ≤ 281474976710656 ∧ n ≤ 1000000000) (hzl : zs.length = sz) (hs : aput sl dst (.row σ.next 0 n) = sl') (h : AOPS P ops r sl' ⟨(σ.next, azeros zs (n * sz)) :: σ.objs, σ.toks, σ.next + 1⟩ Q) : AOPS P ops (⟨dst, .makeSlice t x y, ty, pos, after, none⟩ :: r) sl σ Q :=
  AOPS_eff (av := .row σ.next 0 n) rfl (fun base Fi M a w hr => by
    have h1 := ev1 hr.2.1 hx
    have h2 := ev1 hr.2.1 hy
    unfold Reps at h1 h2
    subst hi hj
    obtain ⟨i, z, hi, hz, hsz, hby, hzs⟩ := T.info
    obtain ⟨z', hz', hzs'⟩ := Z.run w
    have e1 : z' = z := by
      have : (zeroValue e).run P w = .ok z w := by simp [zeroValue, typeInfo, hi, hz]
      rw [this] at hz'; cases hz'; rfl
    subst e1
    have hpos := T.pos
    have h3 := run_make (P := P) w t e i z' T.und hi hz k k' n n (by omega) (by omega) (by rw [hby]; omega) (by omega)
    simp only [Int.toNat_natCast, hsz] at h3
    refine ⟨.slice (some ⟨w.heap.size, 0, none⟩) n n, w.alloc (.cells (madeCells z'.cells (n * sz)) e), M.obj σ.next w.heap.size, .inl ?_, ?_, St.newObj hr.2.2 (azeros_ok (z := z'.cells) hzs' (by omega) (n * sz)) e, Stp.newObj hr.2.2 _⟩
    · simp only [execOp, h1, h2, Sem.run_bind, h3, Result.andThen_ok, Sem.run_pure]
    · unfold Reps
      exact ⟨w.heap.size, by simp [MM.obj], rfl, by simp only [maxLen]; omega⟩) hs h
end Go.Proofs.Ytnjkklkjlloedaa
/-! The abstract machine: calls: a function's contract, its body, its frame; rows that nobody writes to any more. -/
namespace Go.Proofs.Ytnjkklkjlloedaa
open Go.RowKit
set_option linter.unusedVariables false
set_option linter.unusedSimpArgs false

variable {base : Nat} {Fi : Int → Prop} {M M' M'' : MM} {w w' w'' : World}
variable {P : Program} {ops : Array Oper} {r : List Oper} {sl sl' : List AV} {σ σ' : ASt} {Q : Exit → List AV → ASt → Prop}
variable {d : Tmp} {dst : Option Tmp} {ty : TypeId} {pos : String} {after : Array Edge} {x y z : Operand} {gd : Option (Nat × Bool)} {op : Op}

def ACalls (P : Program) (f : FuncId) (args : List AV) (σ : ASt) (K : AV → ASt → Prop) : Prop := ∀ base Fi M w vs, St base Fi M w σ → RepsL M w args vs →
  Calls P f vs.toArray w (fun e w' => ∃ r σ' M' v, K r σ' ∧ e = .returned v ∧ Reps M' w' r v ∧ St base Fi M' w' σ' ∧ Stp base Fi M w M' w')
theorem ACalls.mono {f : FuncId} {args : List AV} {K K' : AV → ASt → Prop} (h : ACalls P f args σ K) (hk : ∀ r σ', K r σ' → K' r σ') : ACalls P f args σ K' :=
  fun base Fi M w vs S hr => (h base Fi M w vs S hr).mono fun e w' ⟨r, σ', M', v, h1, h2⟩ => ⟨r, σ', M', v, hk _ _ h1, h2⟩

/-! ### A function's body -/
inductive AResults (P : Program) (sl : List AV) (σ : ASt) : List ResultVar → List AV → Prop
  | nil : AResults P sl σ [] []
  | tmp {t : Tmp} {rs : List ResultVar} {xs : List AV} {a : AV} : aev sl (.tmp t) = a → AResults P sl σ rs xs → AResults P sl σ (.tmp t :: rs) (a :: xs)
  | cell {t : Tmp} {ty : TypeId} {agg : Bool} {sz : Nat} {id : Int} {off : Nat} {cells : List AV} {av : AV} {rs : List ResultVar} {xs : List AV} : aev sl (.tmp t) = .ptr id off → TyVar P ty agg sz → alook σ.objs id = some cells → aload agg sz cells off = some av → AResults P sl σ rs xs → AResults P sl σ (.cell t ty :: rs) (av :: xs)
def aone : List AV → AV
  | [a] => a
  | xs => .tup xs
def ARet (P : Program) (fn : Func) (K : AV → ASt → Prop) : Exit → List AV → ASt → Prop := fun e sl σ => (e = .normal ∨ e = .ret) ∧ ∃ xs, AResults P sl σ fn.results.toList xs ∧ K (aone xs) σ
theorem ARet_ret {fn : Func} {K : AV → ASt → Prop} {rs : List ResultVar} {xs : List AV} (h0 : fn.results = rs.toArray) (h : AResults P sl σ rs xs) (hk : K (aone xs) σ) : ARet P fn K .ret sl σ := ⟨.inr rfl, xs, by rw [h0]; simpa using h, hk⟩
theorem ARet_normal {fn : Func} {K : AV → ASt → Prop} {rs : List ResultVar} {xs : List AV} (h0 : fn.results = rs.toArray) (h : AResults P sl σ rs xs) (hk : K (aone xs) σ) : ARet P fn K .normal sl σ := ⟨.inl rfl, xs, by rw [h0]; simpa using h, hk⟩
def resVal (tmps : Array Value) : ResultVar → Sem Value
  | .tmp t => pure (tmps.getD t undef)
  | .cell q t => do loadVar t (← asAddr (tmps.getD q undef))
theorem results_eq (fn : Func) (tmps : Array Value) : results fn tmps = (do let vs ← fn.results.mapM (resVal tmps); pure (if h : vs.size = 1 then vs[0] else .tuple vs)) := by
  unfold results
  have : (fun (x : ResultVar) => (match x with
    | .tmp t => pure (tmps.getD t undef)
    | .cell a t => do loadVar t (← asAddr (tmps.getD a undef)) : Sem Value)) = resVal tmps := by funext x; cases x <;> rfl
  rw [← this]
  rfl
theorem asAddr_some (w : World) (q : Addr) : (asAddr (.pointer (some q))).run P w = .ok q w := rfl
theorem AResults.run {a : Act} (hr : Rel base Fi M a w sl σ) : ∀ {rs : List ResultVar} {xs : List AV}, AResults P sl σ rs xs → ∃ vs : List Value, (rs.mapM (resVal a.tmps)).run P w = .ok vs w ∧ RepsL M w xs vs := by
  intro rs xs h
  induction h with
  | nil => exact ⟨[], rfl, RepsL.nil⟩
  | @tmp t rs xs av ha _ ih =>
    obtain ⟨vs, h1, h2⟩ := ih
    have h3 := ev1 hr.2.1 ha
    exact ⟨_ :: vs, by simp only [List.mapM_cons, Sem.run_bind, Sem.run_pure, Result.andThen_ok, h1, resVal]; rfl, RepsL.cons h3 h2⟩
  | @cell t ty agg sz id off cells av rs xs ha T ho hl _ ih =>
    obtain ⟨vs, h1, h2⟩ := ih
    have h3 := ev1 hr.2.1 ha
    unfold Reps at h3
    obtain ⟨b, h4, h5⟩ := h3
    obtain ⟨_, b', us, e, h6, _, h7, h8⟩ := hr.2.2.obs id cells ho
    rw [h4] at h6; cases h6
    obtain ⟨v, h9, h10⟩ := loadVar_ok (b := b) (o := 0) (L := fun w' => w' = w) T h8 (fun w' hw j u hu => by subst hw; rw [cell_of_row w' _ _ _ _ _ h7]; simpa using hu) hl
    replace h9 := h9 w rfl
    rw [Nat.zero_add] at h9
    have h5' : a.tmps.getD t undef = .pointer (some ⟨b, off, none⟩) := h5
    have h11 : (resVal a.tmps (.cell t ty)).run P w = .ok v w := by simp only [resVal, Sem.run_bind, h5', asAddr_some, Result.andThen_ok, h9]
    exact ⟨v :: vs, by simp only [List.mapM_cons, Sem.run_bind, h11, Sem.run_pure, Result.andThen_ok, h1], RepsL.cons h10 h2⟩
theorem results_ok {fn : Func} {a : Act} (hr : Rel base Fi M a w sl σ) {xs : List AV} (h : AResults P sl σ fn.results.toList xs) : ∃ v, (results fn a.tmps).run P w = .ok v w ∧ Reps M w (aone xs) v := by
  obtain ⟨vs, h1, h2⟩ := AResults.run hr h
  have hl := h2.length
  have h4 : (results fn a.tmps).run P w = .ok (if h : vs.toArray.size = 1 then vs.toArray[0] else .tuple vs.toArray) w := by
    rw [results_eq, Array.mapM_eq_mapM_toList]
    simp only [Sem.run_bind, Sem.run_map, h1, Result.andThen_ok, Sem.run_pure]
  refine ⟨_, h4, ?_⟩
  by_cases h1 : vs.toArray.size = 1
  · rw [dif_pos h1]
    match vs, xs, hl, h1, h2 with
    | [v], [x], _, _, h2 =>
      unfold RepsL at h2
      obtain ⟨v', vr, he, h5, h6⟩ := h2
      cases he
      exact h5
    | [v], [], hl, _, _ => simp at hl
    | [v], _ :: _ :: _, hl, _, _ => simp at hl
    | [], _, _, h1, _ => simp at h1
    | _ :: _ :: _, _, _, h1, _ => simp at h1
  · rw [dif_neg h1]
    have : aone xs = .tup xs := by
      match xs, hl with
      | [], _ => rfl
      | [_], hl => simp at h1; exact absurd hl h1
      | _ :: _ :: _, _ => rfl
    rw [this]
    unfold Reps
    exact ⟨_, rfl, by simpa using h2⟩
theorem ACalls_body {f : FuncId} {fn : Func} {c : Code} {args : List AV} {K : AV → ASt → Prop} {n : Nat} (hf : P.funcs[f]? = some fn) (hb : fn.body = some c) (hn : fn.ntmps - args.length = n) (h : AWP P c (args ++ List.replicate n .und) σ (ARet P fn K)) : ACalls P f args σ K := by
  intro base Fi M w vs S hr
  have hl := hr.length
  refine calls_of_wp hf hb (wp_mono (h base Fi M w M _ w (Stp.refl _ _ _ _) ⟨rfl, ?_, S⟩) ?_)
  · simp only [Array.toList_append, Array.toList_replicate, List.size_toArray, hl, hn]
    exact hr.append (RepsL.replicate (by unfold Reps; rfl) n)
  · rintro e a' w' ⟨sl', σ', M', ⟨he, xs, hx, hk⟩, hr', hs⟩
    obtain ⟨v, h1, h2⟩ := results_ok hr' hx
    rcases he with rfl | rfl <;> exact ⟨hr'.1, v, h1, _, σ', M', v, hk, rfl, h2, hr'.2.2, hs⟩

/-! ### A call -/
theorem AOPS_call {f : Operand} {g : FuncId} {first cap : List AV} {as_ : List Operand} {ats : Array TypeId} {args : List AV} {K : AV → ASt → Prop} (hf : aev sl f = .fn g first cap) (ha : first ++ as_.map (aev sl) ++ cap = args) (hc : ∀ (vs : Array Value) (w : World), (callFunc g vs).run P w = .ok (.enter g vs) w) (h : ACalls P g args σ K) (hk : ∀ rv σ', K rv σ' → AOPS P ops r (aput sl dst rv) σ' Q) : AOPS P ops (⟨dst, .call { callee := .value f, args := as_.toArray, argTypes := ats }, ty, pos, after, none⟩ :: r) sl σ Q := by
  intro base Fi M0 w0 M a w hst hr
  refine wpList_plain rfl fun KK hK => ?_
  have h1 := ev1 hr.2.1 hf
  unfold Reps at h1
  obtain ⟨fs, cs, h1, h2, h3⟩ := h1
  have h4 : RepsL M w args (fs.toList ++ as_.map a.eval ++ cs.toList) := by rw [← ha]; exact (h2.append (evs hr.2.1 as_)).append h3
  have h5 := h base Fi M w _ hr.2.2 h4
  unfold Oper.wp
  have h6 : (execOp a.eval ⟨dst, .call { callee := .value f, args := as_.toArray, argTypes := ats }, ty, pos, after, none⟩).run P w = .ok (.enter g (fs.toList ++ as_.map a.eval ++ cs.toList).toArray) w := by
    have e1 : fs ++ (as_.map a.eval).toArray ++ cs = (fs.toList ++ as_.map a.eval ++ cs.toList).toArray := by
      apply Array.ext'; simp
    simp only [execOp, resolve, Deferred.ofValue, h1, Sem.run_bind, Sem.run_pure, Result.andThen_ok, invoke, List.map_toArray]
    rw [e1, hc]
  rw [h6]
  show Calls P g _ w _
  refine h5.mono ?_
  rintro e w' ⟨rv, σ', M', v, h7, rfl, h8, h9, h10⟩
  refine hK _ _ (hk rv σ' h7 base Fi M0 w0 M' _ w' (hst.trans h10) ⟨?_, aput_reps (RepsL.stp h10 _ _ hr.2.1) dst h8, h9⟩)
  cases dst <;> exact hr.1

/-! ### What is forgotten; what a call doesn't see -/
structure ASub (σ1 σ : ASt) : Prop where
  objs : ∀ id cells, alook σ1.objs id = some cells → alook σ.objs id = some cells
  toks : ∀ id top, alook σ1.toks id = some top → alook σ.toks id = some top
  next : σ.next ≤ σ1.next
theorem St.sub (S : St base Fi M w σ) {σ1 : ASt} (h : ASub σ1 σ) : St base Fi M w σ1 :=
  ⟨S.base_le, fun id c hl => S.obs id c (h.objs id c hl), fun id t hl => S.tks id t (h.toks id _ hl), fun id sh kvs hl => S.mps id sh kvs (h.toks id _ hl), S.inj, S.dis, S.tinj, S.obsz, S.tksz, fun id hid => S.fresh id (Int.le_trans h.next hid)⟩
theorem ACalls.sub {f : FuncId} {args : List AV} {K K' : AV → ASt → Prop} (h : ACalls P f args σ K) (hk : ∀ r σ', K r σ' → ∃ σ1, ASub σ1 σ' ∧ K' r σ1) : ACalls P f args σ K' :=
  fun base Fi M w vs S hr => (h base Fi M w vs S hr).mono fun e w' ⟨r, σ', M', v, h1, h2, h3, h4, h5⟩ => let ⟨σ1, k1, k2⟩ := hk _ _ h1; ⟨r, σ1, M', v, k2, h2, h3, h4.sub k1, h5⟩
theorem AOPS_sub {l : List Oper} {σ1 : ASt} (hs : ASub σ1 σ) (h : AOPS P ops l sl σ1 Q) : AOPS P ops l sl σ Q := fun base Fi M0 w0 M a w hst hr => h base Fi M0 w0 M a w hst ⟨hr.1, hr.2.1, hr.2.2.sub hs⟩
theorem AWP_sub {c : Code} {σ1 : ASt} (hs : ASub σ1 σ) (h : AWP P c sl σ1 Q) : AWP P c sl σ Q := fun base Fi M0 w0 M a w hst hr => h base Fi M0 w0 M a w hst ⟨hr.1, hr.2.1, hr.2.2.sub hs⟩

def afree {α : Type} (l1 l : List (Int × α)) : List (Int × α) := l.filter fun p => (alook l1 p.1).isNone
/-- A call sees a part of the store; the rest stays. -/
structure ASplit (σ1 fr σ : ASt) : Prop where
  sub : ASub σ1 σ
  fobjs : ∀ id cells, alook fr.objs id = some cells → alook σ.objs id = some cells ∧ alook σ1.objs id = none ∧ alook σ1.toks id = none
  ftoks : ∀ id top, alook fr.toks id = some top → alook σ.toks id = some top ∧ alook σ1.toks id = none ∧ alook σ1.objs id = none
theorem alook_append {α : Type} : ∀ (l1 l2 : List (Int × α)) (id : Int), alook (l1 ++ l2) id = match alook l1 id with | some v => some v | none => alook l2 id
  | [], l2, id => by simp [alook]
  | (k, v) :: r, l2, id => by
    simp only [List.cons_append, alook]
    split
    · rfl
    · exact alook_append r l2 id
def amerge (σ1 fr : ASt) : ASt := ⟨σ1.objs ++ fr.objs, σ1.toks ++ fr.toks, σ1.next⟩
theorem ACalls.frame {f : FuncId} {args : List AV} {K : AV → ASt → Prop} {σ1 fr : ASt} (h : ACalls P f args σ1 K) (hs : ASplit σ1 fr σ) : ACalls P f args σ (fun rv σ' => ∃ σ2, K rv σ2 ∧ σ' = amerge σ2 fr) := by
  intro base Fi M w vs S hr
  let Fi' : Int → Prop := fun id => Fi id ∨ (alook fr.objs id).isSome = true ∨ (alook fr.toks id).isSome = true
  have fro : ∀ id cells, alook σ1.objs id = some cells → ¬ Fi' id := by
    rintro id cells h1 (h2 | h2 | h2)
    · exact (S.obs id cells (hs.sub.objs id cells h1)).1.1 h2
    · obtain ⟨c, hc⟩ := Option.isSome_iff_exists.1 h2
      have := (hs.fobjs id c hc).2.1
      rw [h1] at this; cases this
    · obtain ⟨c, hc⟩ := Option.isSome_iff_exists.1 h2
      have := (hs.ftoks id c hc).2.2
      rw [h1] at this; cases this
  have frt : ∀ id top, alook σ1.toks id = some top → ¬ Fi' id := by
    rintro id cells h1 (h2 | h2 | h2)
    · cases cells with
      | top t => exact (S.tks id t (hs.sub.toks id _ h1)).1 h2
      | mp sh kvs => exact (S.mps id sh kvs (hs.sub.toks id _ h1)).1.1 h2
    · obtain ⟨c, hc⟩ := Option.isSome_iff_exists.1 h2
      have := (hs.fobjs id c hc).2.2
      rw [h1] at this; cases this
    · obtain ⟨c, hc⟩ := Option.isSome_iff_exists.1 h2
      have := (hs.ftoks id c hc).2.1
      rw [h1] at this; cases this
  have S1 := S.sub hs.sub
  have S' : St base Fi' M w σ1 := by
    refine ⟨S1.base_le, fun id c hl => ?_, fun id t hl => ⟨frt id _ hl, (S1.tks id t hl).2⟩, fun id sh kvs hl => ⟨⟨frt id _ hl, (S1.mps id sh kvs hl).1.2⟩, (S1.mps id sh kvs hl).2⟩, S1.inj, S1.dis, S1.tinj, S1.obsz, S1.tksz, fun id hid => ?_⟩
    · obtain ⟨h1, h2⟩ := S1.obs id c hl
      exact ⟨⟨fro id c hl, h1.2⟩, h2⟩
    · obtain ⟨h1, h2, h3, h4⟩ := S1.fresh id hid
      refine ⟨h1, h2, ?_, h4⟩
      rintro (h5 | h5 | h5)
      · exact h3 h5
      · obtain ⟨c, hc⟩ := Option.isSome_iff_exists.1 h5
        obtain ⟨_, b, _, _, h6, _⟩ := S.obs id c (hs.fobjs id c hc).1
        rw [h1] at h6; cases h6
      · obtain ⟨c, hc⟩ := Option.isSome_iff_exists.1 h5
        cases c with
        | top c =>
          obtain ⟨_, T, h6, _⟩ := S.tks id c (hs.ftoks id _ hc).1
          rw [h2] at h6; cases h6
        | mp sh kvs =>
          obtain ⟨_, b, _, h6, _⟩ := S.mps id sh kvs (hs.ftoks id _ hc).1
          rw [h1] at h6; cases h6
  refine (h base Fi' M w vs S' hr).mono ?_
  rintro e w' ⟨rv, σ2, M', v, hk, he, hv, S2, T⟩
  have TT : Stp base Fi M w M' w' := ⟨T.os, T.tape, T.output, T.size, T.below, T.ob, fun id T0 h0 => let ⟨T1, h1, h2, h3⟩ := T.tk id T0 h0; ⟨T1, h1, h2, h3.imp (fun h => h) fun ⟨a, b⟩ => ⟨a, fun c => b (.inl c)⟩⟩, T.cell, fun id b hf => T.fob id b (.inl hf), fun id hf => T.ffz id (.inl hf), fun id T0 b e' ce hf => T.ftk id T0 b e' ce (.inl hf)⟩
  refine ⟨rv, amerge σ2 fr, M', v, ⟨σ2, hk, rfl⟩, he, hv, ?_, TT⟩
  refine ⟨S2.base_le, ?_, ?_, ?_, S2.inj, S2.dis, S2.tinj, S2.obsz, S2.tksz, fun id hid => ?_⟩
  · intro id cells hl
    simp only [amerge, alook_append] at hl
    cases h2 : alook σ2.objs id with
    | some c =>
      rw [h2] at hl; simp only [Option.some.injEq] at hl; subst hl
      obtain ⟨h3, h4⟩ := S2.obs id c h2
      exact ⟨⟨fun hf => h3.1 (.inl hf), h3.2⟩, h4⟩
    | none =>
      rw [h2] at hl
      simp only at hl
      have hF : Fi' id := .inr (.inl (by rw [hl]; rfl))
      obtain ⟨h3, b, us, e', h4, h5, h6, h7⟩ := S.obs id cells (hs.fobjs id cells hl).1
      exact ⟨⟨h3.1, fun hz => h3.2 (T.ffz id hF hz)⟩, b, us, e', T.ob _ _ h4, h5, by rw [T.fob id b hF h4]; exact h6, RepsL.stp T _ _ h7⟩
  · intro id top hl
    simp only [amerge, alook_append] at hl
    cases h2 : alook σ2.toks id with
    | some c =>
      rw [h2] at hl; simp only [Option.some.injEq] at hl; subst hl
      obtain ⟨h3, h4⟩ := S2.tks id top h2
      exact ⟨fun hf => h3 (.inl hf), h4⟩
    | none =>
      rw [h2] at hl
      simp only at hl
      have hF : Fi' id := .inr (.inr (by rw [hl]; rfl))
      obtain ⟨h3, T0, h4, h5, h6⟩ := S.tks id top (hs.ftoks id _ hl).1
      obtain ⟨T1, h7, _, h8⟩ := T.tk id T0 h4
      rcases h8 with rfl | ⟨_, h8⟩
      · refine ⟨h3, T1, h7, h5, fun b e' ce hb => ?_⟩
        obtain ⟨h9, h10⟩ := h6 b e' ce hb
        have hB := T.ftk id T1 b e' ce hF h4 hb
        exact ⟨h9, h10.heap hB⟩
      · exact absurd hF h8
  · intro id sh kvs hl
    simp only [amerge, alook_append] at hl
    cases h2 : alook σ2.toks id with
    | some c =>
      rw [h2] at hl; simp only [Option.some.injEq] at hl; subst hl
      obtain ⟨h3, h4⟩ := S2.mps id sh kvs h2
      exact ⟨⟨fun hf => h3.1 (.inl hf), h3.2⟩, h4⟩
    | none =>
      rw [h2] at hl
      simp only at hl
      have hF : Fi' id := .inr (.inr (by rw [hl]; rfl))
      obtain ⟨h3, h4⟩ := S.mps id sh kvs (hs.ftoks id _ hl).1
      exact ⟨⟨h3.1, fun hz => h3.2 (T.ffz id hF hz)⟩, h4.stp T fun b o g1 g2 _ => by rw [T.fob id b hF g1]; exact g2⟩
  · obtain ⟨h1, h2, h3, h4⟩ := S2.fresh id hid
    exact ⟨h1, h2, fun hf => h3 (.inl hf), h4⟩
/-- A call that sees nothing of the store. -/
theorem ACalls.pure {f : FuncId} {args : List AV} {K : AV → ASt → Prop} (h : ACalls P f args ⟨[], [], σ.next⟩ K) : ACalls P f args σ (fun rv σ' => ∃ σ2, K rv σ2 ∧ σ' = amerge σ2 σ) :=
  h.frame ⟨⟨(fun _ _ h => by simp [alook] at h), (fun _ _ h => by simp [alook] at h), Int.le_refl _⟩, fun _ _ h => ⟨h, rfl, rfl⟩, fun _ _ h => ⟨h, rfl, rfl⟩⟩
end Go.Proofs.Ytnjkklkjlloedaa
