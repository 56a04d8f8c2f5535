/- Rows of bytes that were made: make, set, copy. -/
import Derived.Test.YtdekfobcdmlelaaSha7
import Derived.Laws.CopyRow
import Derived.Lib.SlBuf
namespace Go.Proofs.Ytdekfobcdmlelaa
open Go.RowKit
set_option linter.unusedVariables false
set_option linter.unusedSimpArgs false

theorem made_bytes (L : Nat) : madeCells #[Value.int .u8 0] (L * 1) = (bvs (List.replicate L 0)).toArray := by
  apply Array.ext
  · simp [madeCells, bvs]
  · intro i h1 h2
    simp [madeCells, bvs, bv, Nat.mod_one]
theorem make_bytes (w : World) (L : Nat) (hL : L ≤ 1000000) : (Instr.makeSlice 22 (.int .i64 L) (.int .i64 L)).run Try.prog w = .ok (.slice (some ⟨w.heap.size, 0, none⟩) L L) (w.alloc (.cells (bvs (List.replicate L 0)).toArray 5)) := by
  obtain ⟨i, hi, hz, hs, hb⟩ := ei_u8.info
  have h := run_make w 22 5 i (.int .u8 0) ei_u8.ht hi hz .i64 .i64 L L (by omega) (by omega) (by rw [hb]; omega) (by omega)
  rw [hs] at h
  simp only [Int.toNat_natCast] at h
  rw [h, ← made_bytes L]
  rfl
/-- A row of bytes of the call's own. -/
structure BRel (w : World) (g : Nat) (bs : List UInt8) (wr : World) : Prop where
  row : wr.heap[g]? = some (.cells (bvs bs).toArray 5 (0, 0))
  below : Below w.heap.size w wr
  base : w.heap.size ≤ g
namespace BRel
variable {w wr : World} {g : Nat} {bs : List UInt8}
theorem get (h : BRel w g bs wr) {j : Nat} (hj : j < bs.length) : wr.cell? ⟨g, j, none⟩ = some (.int .u8 (bs[j].toNat : Int)) ∧ wr.frozen? ⟨g, j, none⟩ = false := by
  refine ⟨?_, by simp [World.frozen?, h.row]⟩
  rw [cell_of_row wr _ _ _ _ _ h.row]
  simp [bvs, bv, hj]
theorem put (h : BRel w g bs wr) (j : Nat) (x : UInt8) : BRel w g (bs.set j x) (wr.setCell ⟨g, j, none⟩ (.int .u8 (x.toNat : Int))) := by
  refine ⟨?_, h.below.setCell h.base _, h.base⟩
  rw [show (bvs (bs.set j x)).toArray = (bvs bs).toArray.setIfInBounds j (.int .u8 (x.toNat : Int)) by simp [bvs, List.map_set, bv]]
  exact heap_setCell_same wr _ _ _ _ _ h.row
theorem rd (h : BRel w g bs wr) {n : Nat} (hn : bs.length = n) (hm : n ≤ maxLen) : Rd wr 1 (some ⟨g, 0, none⟩) n n (bvs bs) :=
  ⟨by rw [bvs_length]; omega, Nat.le_refl _, hm, (fun e => by cases e), .inr ⟨g, 0, rfl, fun j u hu => by rw [cell_of_row wr _ _ _ _ _ h.row, Nat.zero_add]; simpa using hu⟩⟩
end BRel
/-- copy into a row that was just made. -/
theorem BRel.copy {w wr : World} {g L : Nat} (h : BRel w g (List.replicate L 0) wr) {A : Option Addr} {n c : Nat} {bs : List UInt8} (hr : Rd wr 1 A n c (bvs bs)) (hn : n ≤ L) (ty : TypeId) :
    ∃ w', (Builtin.copy_ #[22, 22] ty #[.slice (some ⟨g, 0, none⟩) L L, .slice A n c]).run Try.prog wr = .ok (goInt n) w' ∧ BRel w g (bs ++ List.replicate (L - n) 0) w' := by
  have hl : bs.length = n := by have := hr.len; rw [bvs_length] at this; omega
  obtain ⟨i, hi, hz, hs, hb⟩ := ei_u8.info
  have hsz : (Try.prog.info? 5).map (·.size) = some 1 := by rw [hi]; simp [hs]
  cases A with
  | none =>
    have hc : c = 0 := hr.nil rfl
    have hn0 : n = 0 := by have := hr.cap; omega
    subst hc; subst hn0
    obtain rfl : bs = [] := List.eq_nil_of_length_eq_zero hl
    exact ⟨wr, run_copy_nil Try.prog wr _ _ ty _ ⟨g, 0, none⟩ L L Try.underlying22 (by rw [hi]; rfl), by simpa using h⟩
  | some a =>
    have hsrc : ∀ j v, (bvs bs)[j]? = some v → wr.cell? (a.add j) = some v := by
      intro j v hv
      rcases hr.cells with h0 | ⟨b, o, hA, hx⟩
      · obtain rfl : bs = [] := List.eq_nil_of_length_eq_zero (by omega)
        simp [bvs] at hv
      · cases hA; rw [addr_add]; exact hx j v hv
    have hrun := run_copy_row Try.prog wr 22 22 ty 5 g 0 L L a n c (bvs (List.replicate L 0)).toArray 5 (bvs bs) Try.underlying22 hsz h.row (by rw [bvs_length, hl]; exact (Nat.min_eq_left hn).symm) hsrc (by simp [bvs]; omega) (bvs_one _)
    rw [bvs_length, hl] at hrun
    refine ⟨_, hrun, ⟨?_, ?_, h.base⟩⟩
    · rw [setRow_heap wr g _ _ _ _ h.row]
      congr 3
      simp [bvs, hl]
    · have := h.base
      exact h.below.trans ⟨rfl, rfl, rfl, by simp [World.setRow], fun k hk => setRow_other wr g k _ (by omega)⟩
end Go.Proofs.Ytdekfobcdmlelaa
