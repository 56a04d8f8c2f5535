/- How arguments come in, for the abstract machine: bytes, texts, rows of bytes, rows of rows. -/
import Derived.Test.YtnjkklkjlloedaaRun
import Derived.Test.YtnjkklkjlloedaaArg
import Derived.WideShapes
namespace Go.Proofs.Ytnjkklkjlloedaa
open Go.RowKit
set_option linter.unusedVariables false
set_option linter.unusedSimpArgs false
theorem RBytes.repsA {w : World} {v : Value} {l : List UInt8} (h : RBytes w [v] l) : Reps MM.none w (bsA l) v := by
  obtain ⟨A, c, h1, h2⟩ := h
  simp only [List.cons.injEq, and_true] at h1
  subst h1
  exact Rd.reps h2
theorem RBytes.len {w : World} {v : Value} {l : List UInt8} (h : RBytes w [v] l) : l.length ≤ 9223372036854775807 := by
  obtain ⟨A, c, h1, h2⟩ := h
  have := h2.cap
  have := h2.max
  simp only [maxLen] at this
  omega
theorem RInt.repsA {w : World} {v : Value} {k : IntKind} {n : Int} (h : RInt k w [v] n) : Reps MM.none w (.int k n) v := by
  obtain ⟨h1, _⟩ := h
  simp only [List.cons.injEq, and_true] at h1
  subst h1
  exact Reps_int
theorem RStr.repsA {w : World} {v : Value} {l : List UInt8} (h : RStr w [v] l) : Reps MM.none w (.str l) v := by
  obtain ⟨h1, h2⟩ := h
  simp only [List.cons.injEq, and_true] at h1
  subst h1
  unfold Reps
  exact ⟨rfl, h2⟩
theorem RStr.len {w : World} {v : Value} {l : List UInt8} (h : RStr w [v] l) : l.length ≤ 9223372036854775807 := by
  have := h.2
  simp only [maxLen] at this
  omega
theorem RepsL.chunks {w : World} {M : Type} (f : M → List AV) (sz : Nat) {R : World → List Value → M → Prop} (hR : ∀ cs m, R w cs m → RepsL MM.none w (f m) cs) : ∀ (ms : List M) (cells : List Value), cells.length = ms.length * sz → (∀ i m, ms[i]? = some m → R w ((cells.drop (i * sz)).take sz) m) → RepsL MM.none w (ms.flatMap f) cells
  | [], cells, hl, _ => by
    obtain rfl := List.eq_nil_of_length_eq_zero (by simpa using hl)
    exact RepsL.nil
  | m :: ms, cells, hl, h => by
    have h0 := h 0 m rfl
    rw [Nat.zero_mul, List.drop_zero] at h0
    rw [List.length_cons, Nat.succ_mul] at hl
    rw [List.flatMap_cons, ← List.take_append_drop sz cells]
    refine (hR _ _ h0).append (RepsL.chunks f sz hR ms _ (by rw [List.length_drop]; omega) fun i m' hi => ?_)
    have := h (i + 1) m' (by simpa using hi)
    rw [List.drop_drop, show sz + i * sz = (i + 1) * sz by rw [Nat.succ_mul]; omega]
    exact this
/-- A row that came in. -/
theorem RSlice.repsA {w : World} {v : Value} {M : Type} {sz : Nat} {R : World → List Value → M → Prop} {ms : List M} (h : RSlice sz R w [v] ms) (f : M → List AV) (hR : ∀ cs m, R w cs m → RepsL MM.none w (f m) cs) : Reps MM.none w (.sl .none (ms.flatMap f) ms.length) v ∧ ms.length ≤ 9223372036854775807 := by
  obtain ⟨A, c, cells, h1, h2, h3⟩ := h
  simp only [List.cons.injEq, and_true] at h1
  subst h1
  have hc := h2.cap
  have hm := h2.max
  refine ⟨?_, by simp only [maxLen] at hm; omega⟩
  unfold Reps
  exact ⟨A, c, cells, rfl, hc, hm, h2.nil, h2.cells.imp (fun h => h) fun ⟨b, o, hA, hx⟩ => ⟨b, o, hA, fun j u hu => ⟨hx j u hu, stab_none _ _⟩⟩, RepsL.chunks f sz hR ms cells h2.len h3, fun h0 => by rw [List.eq_nil_of_length_eq_zero h0]; rfl, trivial⟩
/-- Each element of a row that came in. -/
theorem RSlice.each {w : World} {cs : List Value} {M : Type} {sz : Nat} {R : World → List Value → M → Prop} {ms : List M} (h : RSlice sz R w cs ms) : ∀ m ∈ ms, ∃ c, R w c m := by
  obtain ⟨A, c, cells, h1, h2, h3⟩ := h
  intro m hm
  obtain ⟨i, hi, rfl⟩ := List.getElem_of_mem hm
  exact ⟨_, h3 i _ (List.getElem?_eq_getElem hi)⟩
theorem flatMap_single {α β : Type} (f : α → β) : ∀ l : List α, l.flatMap (fun x => [f x]) = l.map f
  | [] => rfl
  | x :: l => by rw [List.flatMap_cons, flatMap_single f l]; rfl
theorem RBytes.one {w : World} {cs : List Value} {l : List UInt8} (h : RBytes w cs l) : RepsL MM.none w [bsA l] cs := by
  have h' := h
  obtain ⟨A, c, h1, h2⟩ := h
  subst h1
  exact RepsL.one (RBytes.repsA h')
theorem RStr.one {w : World} {cs : List Value} {l : List UInt8} (h : RStr w cs l) : RepsL MM.none w [.str l] cs := by
  have h' := h
  obtain ⟨h1, h2⟩ := h
  subst h1
  exact RepsL.one (RStr.repsA h')
theorem RInt.one {w : World} {k : IntKind} {cs : List Value} {n : Int} (h : RInt k w cs n) : RepsL MM.none w [.int k n] cs := by
  have h' := h
  obtain ⟨h1, h2⟩ := h
  subst h1
  exact RepsL.one (RInt.repsA h')
theorem RInt.i64 {w : World} {cs : List Value} {n : Int} (h : RInt .i64 w cs n) : -9223372036854775808 ≤ n ∧ n ≤ 9223372036854775807 := by
  have := h.2
  simpa [Lit.wf, IntKind.min, IntKind.max, IntKind.signed, IntKind.bits] using this
theorem okWide_agg {P : Program} {w : World} {r : Reach} {base : Nat} {t : TypeId} {v : Value} {fs : Array Field} (ht : P.underlying t = some (.struct fs)) (h : Value.okWide P w r base t v) : ∃ cs, v = .agg cs := by
  unfold Value.okWide at h
  rw [ht] at h
  obtain ⟨cs, h, _⟩ := h
  exact ⟨cs, h⟩
end Go.Proofs.Ytnjkklkjlloedaa
