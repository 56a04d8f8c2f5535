/- How arguments that came in are read: from the form's own reading to 'Rd'. -/
import Derived.Test.YtnjkklkjlloedaaW
import Derived.ProofKit
import Derived.Deep.Slices
import Derived.Deep.Strs
namespace Go.Proofs.Ytnjkklkjlloedaa
open Go.RowKit

/-- Whatever reads as data of the type t meets R, for some m. -/
def Opens (P : Program) (t : TypeId) {M : Type} (R : World → List Value → M → Prop) : Prop :=
  ∀ (H : Type) (enc : TypeId × Value → H) (w : World) (base : Nat) (spare : Nat → Bool) (held : Bool) (fuel : Nat) (cs : List Value) (x : DataW H × List MemPlace), DataW.trod enc P w base spare held fuel t cs = some x → ∃ m, R w cs m

def RInt (k : IntKind) (_ : World) (cs : List Value) (n : Int) : Prop := cs = [.int k n] ∧ (Lit.int k n).wf = true
def RBool (_ : World) (cs : List Value) (b : Bool) : Prop := cs = [.bool b]
def RByte (_ : World) (cs : List Value) (b : UInt8) : Prop := cs = [bv b]
def RStr (_ : World) (cs : List Value) (bs : List UInt8) : Prop := cs = [.string ⟨bs.toArray⟩] ∧ bs.length ≤ maxLen
def RSlice {M : Type} (size : Nat) (R : World → List Value → M → Prop) (w : World) (cs : List Value) (ms : List M) : Prop :=
  ∃ A c cells, cs = [.slice A ms.length c] ∧ Rd w size A ms.length c cells ∧ ∀ i m, ms[i]? = some m → R w ((cells.drop (i * size)).take size) m
def RBytes (w : World) (cs : List Value) (bs : List UInt8) : Prop := ∃ A c, cs = [.slice A bs.length c] ∧ Rd w 1 A bs.length c (bvs bs)

section
variable {P : Program} {t : TypeId}
theorem opens_int {k : IntKind} (ht : P.underlying t = some (.int k)) : Opens P t (RInt k) := by
  intro H enc w base spare held fuel cs x h
  obtain ⟨n, rfl, _, hw⟩ := DataW.trod_int ht h
  exact ⟨n, rfl, hw⟩
theorem opens_bool (ht : P.underlying t = some .bool) : Opens P t RBool := by
  intro H enc w base spare held fuel cs x h
  obtain ⟨b, rfl, _⟩ := DataW.trod_bool ht h
  exact ⟨b, rfl⟩
theorem opens_byte (ht : P.underlying t = some (.int .u8)) : Opens P t RByte := by
  intro H enc w base spare held fuel cs x h
  obtain ⟨n, rfl, _, hw⟩ := DataW.trod_int ht h
  have hb : 0 ≤ n ∧ n ≤ 255 := by simpa [Lit.wf, IntKind.min, IntKind.max, IntKind.signed, IntKind.bits] using hw
  refine ⟨UInt8.ofNat n.toNat, ?_⟩
  unfold RByte bv
  have : ((UInt8.ofNat n.toNat).toNat : Int) = n := by simp; omega
  rw [this]
theorem opens_string (ht : P.underlying t = some .string) : Opens P t RStr := by
  intro H enc w base spare held fuel cs x h
  obtain ⟨s, rfl, _, hw⟩ := DataW.trod_string ht h
  exact ⟨s.data.toList, by simp, by simpa using hw⟩

theorem cells_of {w : World} {base n : Nat} {a : Addr} {cs : List Value} (h : w.cells? base a n = some cs) : cs.length = n ∧ ∀ j, j < n → w.cell? (a.add j) = cs[j]? := by
  unfold World.cells? at h
  split at h
  · exact ⟨by simpa using mapM_some_length h, fun j hj => by
      have := mapM_some_get h j j (by simp [hj])
      simpa using this⟩
  · cases h

theorem opens_slice {e : TypeId} {M : Type} {R : World → List Value → M → Prop} {size : Nat} (ht : P.underlying t = some (.slice e)) (hc : P.cellsOf e = size) (hs : 0 < size) (he : Opens P e R) : Opens P t (RSlice size R) := by
  intro H enc w base spare held fuel cs x h
  rcases Deep.open_slice ht h with ⟨rfl, _⟩ | ⟨a, len, cap, m, n, D, Pl, rfl, hb, hl, hm, hmm, _, hx⟩
  · exact ⟨[], none, 0, [], rfl, ⟨by simp, Nat.le_refl _, by simp, fun _ => rfl, .inl rfl⟩, fun i m h => by simp at h⟩
  · have hlm : len ≤ m := by rw [hmm]; split <;> omega
    rw [hc] at hx
    have key : ∀ k, k ≤ len → ∃ (cells : List Value) (ms : List M), cells.length = k * size ∧ ms.length = k ∧ (∀ j u, cells[j]? = some u → w.cell? (a.add j) = some u) ∧
        ∀ i m, ms[i]? = some m → R w ((cells.drop (i * size)).take size) m := by
      intro k
      induction k with
      | zero => intro _; exact ⟨[], [], by simp, rfl, fun j u h => by simp at h, fun i m h => by simp at h⟩
      | succ k ih =>
        intro hk
        obtain ⟨cells, ms, h1, h2, h3, h4⟩ := ih (by omega)
        obtain ⟨cs', h5, h6⟩ := hx k (by omega)
        obtain ⟨y, hy⟩ := he H enc w base spare held n cs' _ h6
        obtain ⟨h7, h8⟩ := cells_of h5
        have hmul : (k + 1) * size = k * size + size := Nat.succ_mul k size
        refine ⟨cells ++ cs', ms ++ [y], by rw [List.length_append, h1, h7, hmul], by simp [h2], fun j u hu => ?_, fun i m hi => ?_⟩
        · by_cases hj : j < cells.length
          · rw [List.getElem?_append_left hj] at hu
            exact h3 j u hu
          · rw [List.getElem?_append_right (by omega)] at hu
            have hj' : j - cells.length < size := by have := (List.getElem?_eq_some_iff.1 hu).1; omega
            have := h8 (j - cells.length) hj'
            rw [hu, Deep.add_add, show k * size + (j - cells.length) = j by omega] at this
            exact this
        · by_cases hik : i < k
          · rw [List.getElem?_append_left (by omega)] at hi
            have := h4 i m hi
            have hle : i * size + size ≤ cells.length := by
              rw [h1, ← Nat.succ_mul]; exact Nat.mul_le_mul_right _ hik
            rw [List.drop_append_of_le_length (by omega), List.take_append_of_le_length (by rw [List.length_drop]; omega)]
            exact this
          · have hik' : i = k := by
              have := (List.getElem?_eq_some_iff.1 hi).1
              simp [h2] at this; omega
            subst hik'
            rw [List.getElem?_append_right (by omega)] at hi
            simp [h2] at hi
            subst hi
            rw [← h1, List.drop_left, List.take_of_length_le (by omega)]
            exact hy
    obtain ⟨cells, ms, h1, h2, h3, h4⟩ := key len (Nat.le_refl _)
    subst h2
    refine ⟨ms, some a, cap, cells, rfl, ⟨h1, hl, hm, (fun h => by cases h), ?_⟩, h4⟩
    by_cases h0 : ms.length = 0
    · exact .inl h0
    · right
      have hpos : 0 < cells.length := by rw [h1]; exact Nat.mul_pos (by omega) hs
      have hc0 := h3 0 cells[0] (List.getElem?_eq_getElem hpos)
      have hsp := World.cell?_spot hc0
      obtain ⟨b, o, sp⟩ := a
      have : sp = none := by simpa [Addr.add] using hsp
      subst this
      exact ⟨b, o, rfl, fun j u hu => by have := h3 j u hu; rwa [addr_add] at this⟩

theorem opens_bytes {e : TypeId} (ht : P.underlying t = some (.slice e)) (he : P.underlying e = some (.int .u8)) (hc : P.cellsOf e = 1) : Opens P t RBytes := by
  intro H enc w base spare held fuel cs x h
  obtain ⟨ms, A, c, cells, rfl, hr, hm⟩ := opens_slice ht hc (by omega) (opens_byte he) H enc w base spare held fuel cs x h
  refine ⟨ms, A, c, rfl, ?_⟩
  have : cells = bvs ms := by
    apply List.ext_getElem?
    intro i
    have hl := hr.len
    by_cases hi : i < ms.length
    · have h1 := hm i ms[i] (List.getElem?_eq_getElem hi)
      rw [bvs_get ms i hi]
      have h2 : cells[i]? = ((cells.drop (i * 1)).take 1)[0]? := by simp
      rw [h2, show (cells.drop (i * 1)).take 1 = [bv ms[i]] from h1]
      rfl
    · rw [List.getElem?_eq_none (by omega), List.getElem?_eq_none (by rw [bvs_length]; omega)]
  rw [← this]
  exact hr

theorem opens_struct2 {fs : Array Field} {t0 t1 : TypeId} {M0 : Type} {R0 : World → List Value → M0 → Prop} {M1 : Type} {R1 : World → List Value → M1 → Prop}
    (ht : P.underlying t = some (.struct fs)) (hf : (fs.toList.map fun f => (f.type, f.offset)) = [(t0, 0), (t1, 1)]) (hcs : [t0, t1].map P.cellsOf = [1, 1]) (hct : P.cellsOf t = 2)
    (h0 : Opens P t0 R0)  (h1 : Opens P t1 R1) :
    Opens P t (fun w cs (m : M0 × M1) => ∃ c0 c1, cs = [c0, c1] ∧ R0 w [c0] m.1 ∧ R1 w [c1] m.2) := by
  intro H enc w base spare held fuel cs x h
  obtain ⟨xs, n, _, _, hl, hlen, hx⟩ := DataW.trod_struct ht h
  rw [hct] at hl
  match cs, hl with
  | [c0, c1], _ =>
    simp only [List.map_cons, List.map_nil, List.cons.injEq, and_true] at hcs
    obtain ⟨e0, e1⟩ := hcs
    have hsz : fs.size = 2 := by have := congrArg List.length hf; simpa using this
    have hel : ∀ i, i < 2 → ∃ y, xs[i]? = some y := fun i hi => ⟨xs[i]'(by omega), List.getElem?_eq_getElem (by omega)⟩
    obtain ⟨m0, hm0⟩ : ∃ m, R0 w [c0] m := by
      have hf0 : fs[0]? = some fs[0] := Array.getElem?_eq_getElem (by omega)
      have hp : (fs[0].type, fs[0].offset) = (t0, 0) := by
        have := congrArg (·[0]?) hf
        simpa [hf0] using this
      simp only [Prod.mk.injEq] at hp
      obtain ⟨y, hy⟩ := hel 0 (by omega)
      have := hx 0 _ hf0
      rw [hp.1, hp.2, e0, hy] at this
      exact h0 H enc w base spare held n [c0] y this
    obtain ⟨m1, hm1⟩ : ∃ m, R1 w [c1] m := by
      have hf0 : fs[1]? = some fs[1] := Array.getElem?_eq_getElem (by omega)
      have hp : (fs[1].type, fs[1].offset) = (t1, 1) := by
        have := congrArg (·[1]?) hf
        simpa [hf0] using this
      simp only [Prod.mk.injEq] at hp
      obtain ⟨y, hy⟩ := hel 1 (by omega)
      have := hx 1 _ hf0
      rw [hp.1, hp.2, e1, hy] at this
      exact h1 H enc w base spare held n [c1] y this
    exact ⟨(m0, m1), c0, c1, rfl, hm0, hm1⟩

theorem opens_struct3 {fs : Array Field} {t0 t1 t2 : TypeId} {M0 : Type} {R0 : World → List Value → M0 → Prop} {M1 : Type} {R1 : World → List Value → M1 → Prop} {M2 : Type} {R2 : World → List Value → M2 → Prop}
    (ht : P.underlying t = some (.struct fs)) (hf : (fs.toList.map fun f => (f.type, f.offset)) = [(t0, 0), (t1, 1), (t2, 2)]) (hcs : [t0, t1, t2].map P.cellsOf = [1, 1, 1]) (hct : P.cellsOf t = 3)
    (h0 : Opens P t0 R0)  (h1 : Opens P t1 R1)  (h2 : Opens P t2 R2) :
    Opens P t (fun w cs (m : M0 × M1 × M2) => ∃ c0 c1 c2, cs = [c0, c1, c2] ∧ R0 w [c0] m.1 ∧ R1 w [c1] m.2.1 ∧ R2 w [c2] m.2.2) := by
  intro H enc w base spare held fuel cs x h
  obtain ⟨xs, n, _, _, hl, hlen, hx⟩ := DataW.trod_struct ht h
  rw [hct] at hl
  match cs, hl with
  | [c0, c1, c2], _ =>
    simp only [List.map_cons, List.map_nil, List.cons.injEq, and_true] at hcs
    obtain ⟨e0, e1, e2⟩ := hcs
    have hsz : fs.size = 3 := by have := congrArg List.length hf; simpa using this
    have hel : ∀ i, i < 3 → ∃ y, xs[i]? = some y := fun i hi => ⟨xs[i]'(by omega), List.getElem?_eq_getElem (by omega)⟩
    obtain ⟨m0, hm0⟩ : ∃ m, R0 w [c0] m := by
      have hf0 : fs[0]? = some fs[0] := Array.getElem?_eq_getElem (by omega)
      have hp : (fs[0].type, fs[0].offset) = (t0, 0) := by
        have := congrArg (·[0]?) hf
        simpa [hf0] using this
      simp only [Prod.mk.injEq] at hp
      obtain ⟨y, hy⟩ := hel 0 (by omega)
      have := hx 0 _ hf0
      rw [hp.1, hp.2, e0, hy] at this
      exact h0 H enc w base spare held n [c0] y this
    obtain ⟨m1, hm1⟩ : ∃ m, R1 w [c1] m := by
      have hf0 : fs[1]? = some fs[1] := Array.getElem?_eq_getElem (by omega)
      have hp : (fs[1].type, fs[1].offset) = (t1, 1) := by
        have := congrArg (·[1]?) hf
        simpa [hf0] using this
      simp only [Prod.mk.injEq] at hp
      obtain ⟨y, hy⟩ := hel 1 (by omega)
      have := hx 1 _ hf0
      rw [hp.1, hp.2, e1, hy] at this
      exact h1 H enc w base spare held n [c1] y this
    obtain ⟨m2, hm2⟩ : ∃ m, R2 w [c2] m := by
      have hf0 : fs[2]? = some fs[2] := Array.getElem?_eq_getElem (by omega)
      have hp : (fs[2].type, fs[2].offset) = (t2, 2) := by
        have := congrArg (·[2]?) hf
        simpa [hf0] using this
      simp only [Prod.mk.injEq] at hp
      obtain ⟨y, hy⟩ := hel 2 (by omega)
      have := hx 2 _ hf0
      rw [hp.1, hp.2, e2, hy] at this
      exact h2 H enc w base spare held n [c2] y this
    exact ⟨(m0, m1, m2), c0, c1, c2, rfl, hm0, hm1, hm2⟩

theorem opens_struct4 {fs : Array Field} {t0 t1 t2 t3 : TypeId} {M0 : Type} {R0 : World → List Value → M0 → Prop} {M1 : Type} {R1 : World → List Value → M1 → Prop} {M2 : Type} {R2 : World → List Value → M2 → Prop} {M3 : Type} {R3 : World → List Value → M3 → Prop}
    (ht : P.underlying t = some (.struct fs)) (hf : (fs.toList.map fun f => (f.type, f.offset)) = [(t0, 0), (t1, 1), (t2, 2), (t3, 3)]) (hcs : [t0, t1, t2, t3].map P.cellsOf = [1, 1, 1, 1]) (hct : P.cellsOf t = 4)
    (h0 : Opens P t0 R0)  (h1 : Opens P t1 R1)  (h2 : Opens P t2 R2)  (h3 : Opens P t3 R3) :
    Opens P t (fun w cs (m : M0 × M1 × M2 × M3) => ∃ c0 c1 c2 c3, cs = [c0, c1, c2, c3] ∧ R0 w [c0] m.1 ∧ R1 w [c1] m.2.1 ∧ R2 w [c2] m.2.2.1 ∧ R3 w [c3] m.2.2.2) := by
  intro H enc w base spare held fuel cs x h
  obtain ⟨xs, n, _, _, hl, hlen, hx⟩ := DataW.trod_struct ht h
  rw [hct] at hl
  match cs, hl with
  | [c0, c1, c2, c3], _ =>
    simp only [List.map_cons, List.map_nil, List.cons.injEq, and_true] at hcs
    obtain ⟨e0, e1, e2, e3⟩ := hcs
    have hsz : fs.size = 4 := by have := congrArg List.length hf; simpa using this
    have hel : ∀ i, i < 4 → ∃ y, xs[i]? = some y := fun i hi => ⟨xs[i]'(by omega), List.getElem?_eq_getElem (by omega)⟩
    obtain ⟨m0, hm0⟩ : ∃ m, R0 w [c0] m := by
      have hf0 : fs[0]? = some fs[0] := Array.getElem?_eq_getElem (by omega)
      have hp : (fs[0].type, fs[0].offset) = (t0, 0) := by
        have := congrArg (·[0]?) hf
        simpa [hf0] using this
      simp only [Prod.mk.injEq] at hp
      obtain ⟨y, hy⟩ := hel 0 (by omega)
      have := hx 0 _ hf0
      rw [hp.1, hp.2, e0, hy] at this
      exact h0 H enc w base spare held n [c0] y this
    obtain ⟨m1, hm1⟩ : ∃ m, R1 w [c1] m := by
      have hf0 : fs[1]? = some fs[1] := Array.getElem?_eq_getElem (by omega)
      have hp : (fs[1].type, fs[1].offset) = (t1, 1) := by
        have := congrArg (·[1]?) hf
        simpa [hf0] using this
      simp only [Prod.mk.injEq] at hp
      obtain ⟨y, hy⟩ := hel 1 (by omega)
      have := hx 1 _ hf0
      rw [hp.1, hp.2, e1, hy] at this
      exact h1 H enc w base spare held n [c1] y this
    obtain ⟨m2, hm2⟩ : ∃ m, R2 w [c2] m := by
      have hf0 : fs[2]? = some fs[2] := Array.getElem?_eq_getElem (by omega)
      have hp : (fs[2].type, fs[2].offset) = (t2, 2) := by
        have := congrArg (·[2]?) hf
        simpa [hf0] using this
      simp only [Prod.mk.injEq] at hp
      obtain ⟨y, hy⟩ := hel 2 (by omega)
      have := hx 2 _ hf0
      rw [hp.1, hp.2, e2, hy] at this
      exact h2 H enc w base spare held n [c2] y this
    obtain ⟨m3, hm3⟩ : ∃ m, R3 w [c3] m := by
      have hf0 : fs[3]? = some fs[3] := Array.getElem?_eq_getElem (by omega)
      have hp : (fs[3].type, fs[3].offset) = (t3, 3) := by
        have := congrArg (·[3]?) hf
        simpa [hf0] using this
      simp only [Prod.mk.injEq] at hp
      obtain ⟨y, hy⟩ := hel 3 (by omega)
      have := hx 3 _ hf0
      rw [hp.1, hp.2, e3, hy] at this
      exact h3 H enc w base spare held n [c3] y this
    exact ⟨(m0, m1, m2, m3), c0, c1, c2, c3, rfl, hm0, hm1, hm2, hm3⟩

theorem opens_struct5 {fs : Array Field} {t0 t1 t2 t3 t4 : TypeId} {M0 : Type} {R0 : World → List Value → M0 → Prop} {M1 : Type} {R1 : World → List Value → M1 → Prop} {M2 : Type} {R2 : World → List Value → M2 → Prop} {M3 : Type} {R3 : World → List Value → M3 → Prop} {M4 : Type} {R4 : World → List Value → M4 → Prop}
    (ht : P.underlying t = some (.struct fs)) (hf : (fs.toList.map fun f => (f.type, f.offset)) = [(t0, 0), (t1, 1), (t2, 2), (t3, 3), (t4, 4)]) (hcs : [t0, t1, t2, t3, t4].map P.cellsOf = [1, 1, 1, 1, 1]) (hct : P.cellsOf t = 5)
    (h0 : Opens P t0 R0)  (h1 : Opens P t1 R1)  (h2 : Opens P t2 R2)  (h3 : Opens P t3 R3)  (h4 : Opens P t4 R4) :
    Opens P t (fun w cs (m : M0 × M1 × M2 × M3 × M4) => ∃ c0 c1 c2 c3 c4, cs = [c0, c1, c2, c3, c4] ∧ R0 w [c0] m.1 ∧ R1 w [c1] m.2.1 ∧ R2 w [c2] m.2.2.1 ∧ R3 w [c3] m.2.2.2.1 ∧ R4 w [c4] m.2.2.2.2) := by
  intro H enc w base spare held fuel cs x h
  obtain ⟨xs, n, _, _, hl, hlen, hx⟩ := DataW.trod_struct ht h
  rw [hct] at hl
  match cs, hl with
  | [c0, c1, c2, c3, c4], _ =>
    simp only [List.map_cons, List.map_nil, List.cons.injEq, and_true] at hcs
    obtain ⟨e0, e1, e2, e3, e4⟩ := hcs
    have hsz : fs.size = 5 := by have := congrArg List.length hf; simpa using this
    have hel : ∀ i, i < 5 → ∃ y, xs[i]? = some y := fun i hi => ⟨xs[i]'(by omega), List.getElem?_eq_getElem (by omega)⟩
    obtain ⟨m0, hm0⟩ : ∃ m, R0 w [c0] m := by
      have hf0 : fs[0]? = some fs[0] := Array.getElem?_eq_getElem (by omega)
      have hp : (fs[0].type, fs[0].offset) = (t0, 0) := by
        have := congrArg (·[0]?) hf
        simpa [hf0] using this
      simp only [Prod.mk.injEq] at hp
      obtain ⟨y, hy⟩ := hel 0 (by omega)
      have := hx 0 _ hf0
      rw [hp.1, hp.2, e0, hy] at this
      exact h0 H enc w base spare held n [c0] y this
    obtain ⟨m1, hm1⟩ : ∃ m, R1 w [c1] m := by
      have hf0 : fs[1]? = some fs[1] := Array.getElem?_eq_getElem (by omega)
      have hp : (fs[1].type, fs[1].offset) = (t1, 1) := by
        have := congrArg (·[1]?) hf
        simpa [hf0] using this
      simp only [Prod.mk.injEq] at hp
      obtain ⟨y, hy⟩ := hel 1 (by omega)
      have := hx 1 _ hf0
      rw [hp.1, hp.2, e1, hy] at this
      exact h1 H enc w base spare held n [c1] y this
    obtain ⟨m2, hm2⟩ : ∃ m, R2 w [c2] m := by
      have hf0 : fs[2]? = some fs[2] := Array.getElem?_eq_getElem (by omega)
      have hp : (fs[2].type, fs[2].offset) = (t2, 2) := by
        have := congrArg (·[2]?) hf
        simpa [hf0] using this
      simp only [Prod.mk.injEq] at hp
      obtain ⟨y, hy⟩ := hel 2 (by omega)
      have := hx 2 _ hf0
      rw [hp.1, hp.2, e2, hy] at this
      exact h2 H enc w base spare held n [c2] y this
    obtain ⟨m3, hm3⟩ : ∃ m, R3 w [c3] m := by
      have hf0 : fs[3]? = some fs[3] := Array.getElem?_eq_getElem (by omega)
      have hp : (fs[3].type, fs[3].offset) = (t3, 3) := by
        have := congrArg (·[3]?) hf
        simpa [hf0] using this
      simp only [Prod.mk.injEq] at hp
      obtain ⟨y, hy⟩ := hel 3 (by omega)
      have := hx 3 _ hf0
      rw [hp.1, hp.2, e3, hy] at this
      exact h3 H enc w base spare held n [c3] y this
    obtain ⟨m4, hm4⟩ : ∃ m, R4 w [c4] m := by
      have hf0 : fs[4]? = some fs[4] := Array.getElem?_eq_getElem (by omega)
      have hp : (fs[4].type, fs[4].offset) = (t4, 4) := by
        have := congrArg (·[4]?) hf
        simpa [hf0] using this
      simp only [Prod.mk.injEq] at hp
      obtain ⟨y, hy⟩ := hel 4 (by omega)
      have := hx 4 _ hf0
      rw [hp.1, hp.2, e4, hy] at this
      exact h4 H enc w base spare held n [c4] y this
    exact ⟨(m0, m1, m2, m3, m4), c0, c1, c2, c3, c4, rfl, hm0, hm1, hm2, hm3, hm4⟩

theorem opens_struct9 {fs : Array Field} {t0 t1 t2 t3 t4 t5 t6 t7 t8 : TypeId} {M0 : Type} {R0 : World → List Value → M0 → Prop} {M1 : Type} {R1 : World → List Value → M1 → Prop} {M2 : Type} {R2 : World → List Value → M2 → Prop} {M3 : Type} {R3 : World → List Value → M3 → Prop} {M4 : Type} {R4 : World → List Value → M4 → Prop} {M5 : Type} {R5 : World → List Value → M5 → Prop} {M6 : Type} {R6 : World → List Value → M6 → Prop} {M7 : Type} {R7 : World → List Value → M7 → Prop} {M8 : Type} {R8 : World → List Value → M8 → Prop}
    (ht : P.underlying t = some (.struct fs)) (hf : (fs.toList.map fun f => (f.type, f.offset)) = [(t0, 0), (t1, 1), (t2, 2), (t3, 3), (t4, 4), (t5, 5), (t6, 6), (t7, 7), (t8, 8)]) (hcs : [t0, t1, t2, t3, t4, t5, t6, t7, t8].map P.cellsOf = [1, 1, 1, 1, 1, 1, 1, 1, 1]) (hct : P.cellsOf t = 9)
    (h0 : Opens P t0 R0)  (h1 : Opens P t1 R1)  (h2 : Opens P t2 R2)  (h3 : Opens P t3 R3)  (h4 : Opens P t4 R4)  (h5 : Opens P t5 R5)  (h6 : Opens P t6 R6)  (h7 : Opens P t7 R7)  (h8 : Opens P t8 R8) :
    Opens P t (fun w cs (m : M0 × M1 × M2 × M3 × M4 × M5 × M6 × M7 × M8) => ∃ c0 c1 c2 c3 c4 c5 c6 c7 c8, cs = [c0, c1, c2, c3, c4, c5, c6, c7, c8] ∧ R0 w [c0] m.1 ∧ R1 w [c1] m.2.1 ∧ R2 w [c2] m.2.2.1 ∧ R3 w [c3] m.2.2.2.1 ∧ R4 w [c4] m.2.2.2.2.1 ∧ R5 w [c5] m.2.2.2.2.2.1 ∧ R6 w [c6] m.2.2.2.2.2.2.1 ∧ R7 w [c7] m.2.2.2.2.2.2.2.1 ∧ R8 w [c8] m.2.2.2.2.2.2.2.2) := by
  intro H enc w base spare held fuel cs x h
  obtain ⟨xs, n, _, _, hl, hlen, hx⟩ := DataW.trod_struct ht h
  rw [hct] at hl
  match cs, hl with
  | [c0, c1, c2, c3, c4, c5, c6, c7, c8], _ =>
    simp only [List.map_cons, List.map_nil, List.cons.injEq, and_true] at hcs
    obtain ⟨e0, e1, e2, e3, e4, e5, e6, e7, e8⟩ := hcs
    have hsz : fs.size = 9 := by have := congrArg List.length hf; simpa using this
    have hel : ∀ i, i < 9 → ∃ y, xs[i]? = some y := fun i hi => ⟨xs[i]'(by omega), List.getElem?_eq_getElem (by omega)⟩
    obtain ⟨m0, hm0⟩ : ∃ m, R0 w [c0] m := by
      have hf0 : fs[0]? = some fs[0] := Array.getElem?_eq_getElem (by omega)
      have hp : (fs[0].type, fs[0].offset) = (t0, 0) := by
        have := congrArg (·[0]?) hf
        simpa [hf0] using this
      simp only [Prod.mk.injEq] at hp
      obtain ⟨y, hy⟩ := hel 0 (by omega)
      have := hx 0 _ hf0
      rw [hp.1, hp.2, e0, hy] at this
      exact h0 H enc w base spare held n [c0] y this
    obtain ⟨m1, hm1⟩ : ∃ m, R1 w [c1] m := by
      have hf0 : fs[1]? = some fs[1] := Array.getElem?_eq_getElem (by omega)
      have hp : (fs[1].type, fs[1].offset) = (t1, 1) := by
        have := congrArg (·[1]?) hf
        simpa [hf0] using this
      simp only [Prod.mk.injEq] at hp
      obtain ⟨y, hy⟩ := hel 1 (by omega)
      have := hx 1 _ hf0
      rw [hp.1, hp.2, e1, hy] at this
      exact h1 H enc w base spare held n [c1] y this
    obtain ⟨m2, hm2⟩ : ∃ m, R2 w [c2] m := by
      have hf0 : fs[2]? = some fs[2] := Array.getElem?_eq_getElem (by omega)
      have hp : (fs[2].type, fs[2].offset) = (t2, 2) := by
        have := congrArg (·[2]?) hf
        simpa [hf0] using this
      simp only [Prod.mk.injEq] at hp
      obtain ⟨y, hy⟩ := hel 2 (by omega)
      have := hx 2 _ hf0
      rw [hp.1, hp.2, e2, hy] at this
      exact h2 H enc w base spare held n [c2] y this
    obtain ⟨m3, hm3⟩ : ∃ m, R3 w [c3] m := by
      have hf0 : fs[3]? = some fs[3] := Array.getElem?_eq_getElem (by omega)
      have hp : (fs[3].type, fs[3].offset) = (t3, 3) := by
        have := congrArg (·[3]?) hf
        simpa [hf0] using this
      simp only [Prod.mk.injEq] at hp
      obtain ⟨y, hy⟩ := hel 3 (by omega)
      have := hx 3 _ hf0
      rw [hp.1, hp.2, e3, hy] at this
      exact h3 H enc w base spare held n [c3] y this
    obtain ⟨m4, hm4⟩ : ∃ m, R4 w [c4] m := by
      have hf0 : fs[4]? = some fs[4] := Array.getElem?_eq_getElem (by omega)
      have hp : (fs[4].type, fs[4].offset) = (t4, 4) := by
        have := congrArg (·[4]?) hf
        simpa [hf0] using this
      simp only [Prod.mk.injEq] at hp
      obtain ⟨y, hy⟩ := hel 4 (by omega)
      have := hx 4 _ hf0
      rw [hp.1, hp.2, e4, hy] at this
      exact h4 H enc w base spare held n [c4] y this
    obtain ⟨m5, hm5⟩ : ∃ m, R5 w [c5] m := by
      have hf0 : fs[5]? = some fs[5] := Array.getElem?_eq_getElem (by omega)
      have hp : (fs[5].type, fs[5].offset) = (t5, 5) := by
        have := congrArg (·[5]?) hf
        simpa [hf0] using this
      simp only [Prod.mk.injEq] at hp
      obtain ⟨y, hy⟩ := hel 5 (by omega)
      have := hx 5 _ hf0
      rw [hp.1, hp.2, e5, hy] at this
      exact h5 H enc w base spare held n [c5] y this
    obtain ⟨m6, hm6⟩ : ∃ m, R6 w [c6] m := by
      have hf0 : fs[6]? = some fs[6] := Array.getElem?_eq_getElem (by omega)
      have hp : (fs[6].type, fs[6].offset) = (t6, 6) := by
        have := congrArg (·[6]?) hf
        simpa [hf0] using this
      simp only [Prod.mk.injEq] at hp
      obtain ⟨y, hy⟩ := hel 6 (by omega)
      have := hx 6 _ hf0
      rw [hp.1, hp.2, e6, hy] at this
      exact h6 H enc w base spare held n [c6] y this
    obtain ⟨m7, hm7⟩ : ∃ m, R7 w [c7] m := by
      have hf0 : fs[7]? = some fs[7] := Array.getElem?_eq_getElem (by omega)
      have hp : (fs[7].type, fs[7].offset) = (t7, 7) := by
        have := congrArg (·[7]?) hf
        simpa [hf0] using this
      simp only [Prod.mk.injEq] at hp
      obtain ⟨y, hy⟩ := hel 7 (by omega)
      have := hx 7 _ hf0
      rw [hp.1, hp.2, e7, hy] at this
      exact h7 H enc w base spare held n [c7] y this
    obtain ⟨m8, hm8⟩ : ∃ m, R8 w [c8] m := by
      have hf0 : fs[8]? = some fs[8] := Array.getElem?_eq_getElem (by omega)
      have hp : (fs[8].type, fs[8].offset) = (t8, 8) := by
        have := congrArg (·[8]?) hf
        simpa [hf0] using this
      simp only [Prod.mk.injEq] at hp
      obtain ⟨y, hy⟩ := hel 8 (by omega)
      have := hx 8 _ hf0
      rw [hp.1, hp.2, e8, hy] at this
      exact h8 H enc w base spare held n [c8] y this
    exact ⟨(m0, m1, m2, m3, m4, m5, m6, m7, m8), c0, c1, c2, c3, c4, c5, c6, c7, c8, rfl, hm0, hm1, hm2, hm3, hm4, hm5, hm6, hm7, hm8⟩
end

end Go.Proofs.Ytnjkklkjlloedaa
