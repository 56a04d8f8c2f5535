/- Contracts of code's Reader. -/
import Derived.Test.YtnjkklkjlloedaaCode3
namespace Go.Proofs.Ytnjkklkjlloedaa
open Go.RowKit

/-- What is read: the bytes that are left, and whether it is bad. -/
abbrev RS := List UInt8 × Bool
def numOf (bs : List UInt8) : Nat := bs.foldl (fun a b => a * 256 + b.toNat) 0
def rget (size : Nat) (s : RS) : Nat × RS := if s.2 = true ∨ s.1.length < size then (0, (s.1, true)) else (numOf (s.1.take size), (s.1.drop size, false))
def rnum (least most : Int) (s : RS) : Int × RS :=
  if (rget 6 s).2.2 = true ∨ ((rget 6 s).1 : Int) < least ∨ most < ((rget 6 s).1 : Int) then (0, ((rget 6 s).2.1, true)) else ((rget 6 s).1, (rget 6 s).2)
def rtext (least most : Int) (s : RS) : List UInt8 × RS :=
  if (rget 2 s).2.2 = true ∨ ((rget 2 s).1 : Int) < least ∨ most < ((rget 2 s).1 : Int) then ([], ((rget 2 s).2.1, true))
  else if (rget 2 s).2.1.length < (rget 2 s).1 then ([], ((rget 2 s).2.1, true))
  else ((rget 2 s).2.1.take (rget 2 s).1, ((rget 2 s).2.1.drop (rget 2 s).1, false))

/-- Block r is a reader, of the bytes s.1, whose array begins at the block base or behind. -/
def Rdr (w : World) (base r : Nat) (s : RS) : Prop :=
  ∃ A c, w.heap[r]? = some (.cells #[.slice A s.1.length c, .bool s.2] 131 (0, 0)) ∧ Seg w base 1 A s.1.length c (bvs s.1) ∧ ∀ a, A = some a → a.block ≠ r

theorem Rdr.below {w w' : World} {base r : Nat} {s : RS} (h : Rdr w base r s) (hb : Below w.heap.size w w') : Rdr w' base r s := by
  obtain ⟨A, c, hr, hs, ha⟩ := h
  exact ⟨A, c, by rw [hb.block r (Array.getElem?_eq_some_iff.1 hr).1]; exact hr, hs.below hb, ha⟩
theorem Rdr.lt {w : World} {base r : Nat} {s : RS} (h : Rdr w base r s) : r < w.heap.size := by
  obtain ⟨A, c, hr, _⟩ := h
  exact (Array.getElem?_eq_some_iff.1 hr).1

/-- A block of two cells. -/
theorem cell_two {w : World} {r : Nat} {u v : Value} {t : TypeId} (h : w.heap[r]? = some (.cells #[u, v] t (0, 0))) :
    w.cell? ⟨r, 0, none⟩ = some u ∧ w.cell? ⟨r, 1, none⟩ = some v ∧ w.frozen? ⟨r, 0, none⟩ = false ∧ w.frozen? ⟨r, 1, none⟩ = false := by
  simp [World.cell?, World.frozen?, h]
theorem heap_set {w : World} {r : Nat} {cs : Array Value} {t : TypeId} {fz : Nat × Nat} (h : w.heap[r]? = some (.cells cs t fz)) (o : Nat) (x : Value) :
    (w.setCell ⟨r, o, none⟩ x).heap[r]? = some (.cells (cs.setIfInBounds o x) t fz) := by
  have hlt := (Array.getElem?_eq_some_iff.1 h).1
  have h' : w.heap[r] = .cells cs t fz := by simpa [Array.getElem?_eq_getElem hlt] using h
  show (w.heap.modify r _)[r]? = _
  rw [Array.getElem?_eq_getElem (by simpa using hlt), Array.getElem_modify_self, h']
  rfl
theorem grown_set (w : World) (r o : Nat) (x : Value) : w.grownBy (w.setCell ⟨r, o, none⟩ x) (some r) :=
  ⟨rfl, rfl, rfl, by simp [World.setCell], fun k _ hne => Below.heap_setCell _ _ _ _ (by simpa using hne)⟩
theorem grown_trans {a b c : World} {row : Option Nat} (h : a.grownBy b row) (k : b.grownBy c row) : a.grownBy c row :=
  ⟨k.os.trans h.os, k.tape.trans h.tape, k.output.trans h.output, Nat.le_trans h.size k.size, fun i hi hne => (k.block i (Nat.lt_of_lt_of_le hi h.size) hne).trans (h.block i hi hne)⟩

/-- Bytes in a row within a row of bytes. -/
theorem Seg.part {w : World} {base : Nat} {g o n c : Nat} {bs : List UInt8} (h : Seg w base 1 (some ⟨g, o, none⟩) n c (bvs bs)) (i m : Nat) (him : i + m ≤ n) (c' : Nat) (hc' : m ≤ c') (hcc : i + c' ≤ c) :
    Seg w base 1 (some ⟨g, o + i, none⟩) m c' (bvs ((bs.drop i).take m)) := by
  have hl : bs.length = n := by have := h.len; rw [bvs_length] at this; omega
  have hmax := h.max
  rcases h.form with ⟨h0, _⟩ | ⟨g', o', hA, hg, hf, hx⟩
  · cases h0
  · cases hA
    refine ⟨by rw [bvs_length]; simp; omega, hc', by omega, .inr ⟨g, o + i, rfl, hg, fun j hj => ?_, fun j u hu => ?_⟩⟩
    · rw [show o + i + j = o + (i + j) by omega]
      exact hf (i + j) (by omega)
    · have hj : j < m := by
        have := (List.getElem?_eq_some_iff.1 hu).1
        rw [bvs_length] at this; simp at this; omega
      rw [show o + i + j = o + (i + j) by omega]
      refine hx (i + j) u ?_
      rw [← hu]
      simp [bvs, hj]

/-- Behind it only cells of the first n of A may have turned. -/
def Apart (w : World) (A : Option Addr) (n base r : Nat) (s : RS) : Prop := ∀ g o, A = some ⟨g, o, none⟩ → ∀ vs : List Value, vs.length ≤ n → Rdr (w.setCells g o vs) base r s

/-- What take answers. -/
def TakePost (w : World) (base r : Nat) (out : List UInt8) (s : RS) (e : Ending) (w' : World) : Prop :=
  ∃ A c, e = .returned (.slice A out.length c) ∧ Seg w' base 1 A out.length c (bvs out) ∧ Rdr w' base r s ∧ w.grownBy w' (some r) ∧ Apart w' A out.length base r s

set_option maxHeartbeats 400000 in
theorem take_bad (r n : Nat) (base : Nat) (s : RS) (w : World) (hr : Rdr w base r s) (h : s.2 = true ∨ s.1.length < n) :
    Calls Try.prog 81 #[.pointer (some ⟨r, 0, none⟩), .int .i64 n] w (TakePost w base r [] (s.1, true)) := by
  obtain ⟨A, c, hc, hs, ha⟩ := hr
  obtain ⟨hc0, hc1, hf0, hf1⟩ := cell_two hc
  have hmax := hs.max
  have hcap := hs.cap
  unfold maxLen at hmax
  have H := Lib.hid hc
  clear hc
  have fin : TakePost w base r [] (s.1, true) (.returned (.slice none 0 0)) (w.setCell ⟨r, 1, none⟩ (.bool true)) := by
    have hg := grown_set w r 1 (.bool true)
    have hk : Rdr (w.setCell ⟨r, 1, none⟩ (.bool true)) base r (s.1, true) := ⟨A, c, by rw [heap_set H.out]; rfl, hs.kept hg (fun a h => by simpa using ha a h), ha⟩
    exact ⟨none, 0, rfl, Seg.nil _ _ _, hk, hg, fun g o h => by cases h⟩
  have FIN := Lib.hid fin
  clear fin ha
  by_cases hb : s.2 = true
  · rw [hb] at hc1
    have HB := Lib.hid hb
    clear hb h
    go_enter Try.func81, Try.ntmps81
    go_wp2_with fail
    refine wp_scope_fwd 0 rfl ?_
    go_wp2_with fail
    go_step3
    refine ⟨rfl, ?_⟩
    go_wp2_with fail
    go_ret
    exact FIN.out
  · have hlt : s.1.length < n := h.resolve_left hb
    have hb' : s.2 = false := by simpa using hb
    rw [hb'] at hc1
    have HB := Lib.hid hb'
    clear hb hb' h
    go_enter Try.func81, Try.ntmps81
    go_wp2_with fail
    refine wp_scope_fwd 0 rfl ?_
    go_wp2_with fail
    go_step3
    refine ⟨rfl, ?_⟩
    go_wp2_with fail
    go_ret
    exact FIN.out

set_option maxHeartbeats 400000 in
theorem take_ok (r n : Nat) (base : Nat) (bs : List UInt8) (w : World) (hr : Rdr w base r (bs, false)) (h : n ≤ bs.length) :
    Calls Try.prog 81 #[.pointer (some ⟨r, 0, none⟩), .int .i64 n] w (TakePost w base r (bs.take n) (bs.drop n, false)) := by
  obtain ⟨A, c, hc, hs, ha⟩ := hr
  obtain ⟨hc0, hc1, hf0, hf1⟩ := cell_two hc
  have hmax := hs.max
  have hcap := hs.cap
  simp only at hcap hc hs
  unfold maxLen at hmax
  have H := Lib.hid hc
  clear hc
  have hlen : (bs.take n).length = n := by rw [List.length_take]; omega
  have hdl : (bs.drop n).length = bs.length - n := List.length_drop
  by_cases hcn : c = n
  · subst hcn
    have hbl : bs.length = c := by omega
    have fin : TakePost w base r (bs.take c) (bs.drop c, false) (.returned (.slice A c c)) (w.setCell ⟨r, 0, none⟩ (.slice A 0 0)) := by
      have hg := grown_set w r 0 (.slice A 0 0)
      have hd : bs.drop c = [] := List.drop_eq_nil_of_le (by omega)
      have hs' := hs.kept hg (fun a h => by simpa using ha a h)
      have hk : ∀ w1 : World, w1.heap[r]? = some (.cells #[.slice A 0 0, .bool false] 131 (0, 0)) → w.heap.size ≤ w1.heap.size → Rdr w1 base r (bs.drop c, false) := fun w1 h1 hz1 => by
        refine ⟨A, 0, by rw [h1, hd]; rfl, ?_, ha⟩
        rw [hd]
        refine ⟨by simp [bvs], by simp, by simp, ?_⟩
        rcases hs.form with ⟨h0, _⟩ | ⟨g, o, hA, hb, _⟩
        · exact .inl ⟨h0, rfl⟩
        · exact .inr ⟨g, o, hA, ⟨hb.1, Nat.lt_of_lt_of_le hb.2 hz1⟩, fun j hj => by omega, fun j u hu => by simp [bvs] at hu⟩
      have hr1 := heap_set H.out 0 (.slice A 0 0)
      refine ⟨A, c, by rw [hlen], ?_, hk _ (by rw [hr1]; rfl) hg.size, hg, fun g o hA vs _ => hk _ ?_ (by rw [size_setCells]; exact hg.size)⟩
      · rw [List.take_of_length_le (by omega)]; exact hs'
      · rw [World.heap_setCells_other _ _ _ _ (by have := (Array.getElem?_eq_some_iff.1 hr1).1; exact this) (fun e => ha _ hA e.symm), hr1]; rfl
    have FIN := Lib.hid fin
    clear fin ha hs hlen hdl hbl
    go_enter Try.func81, Try.ntmps81
    go_wp2_with fail
    refine wp_scope_fwd 0 rfl ?_
    go_wp2_with fail
    go_ret
    exact FIN.out
  · obtain ⟨g, o, rfl⟩ : ∃ g o, A = some ⟨g, o, none⟩ := by
      rcases hs.form with ⟨_, h0⟩ | ⟨g, o, hA, _⟩
      · omega
      · exact ⟨g, o, hA⟩
    have hne := ha _ rfl
    have fin : TakePost w base r (bs.take n) (bs.drop n, false) (.returned (.slice (some ⟨g, o, none⟩) n n)) (w.setCell ⟨r, 0, none⟩ (.slice (some ⟨g, o + n, none⟩) (bs.length - n) (c - n))) := by
      have hg := grown_set w r 0 (.slice (some ⟨g, o + n, none⟩) (bs.length - n) (c - n))
      have hs' := hs.kept hg (fun a h => by simpa using ha a h)
      have h1 := hs'.part 0 n (by omega) n (Nat.le_refl _) (by omega)
      have h2 := hs'.part n (bs.length - n) (by omega) (c - n) (by omega) (by omega)
      rw [List.take_of_length_le (by rw [hdl]; exact Nat.le_refl _)] at h2
      have hr1 := heap_set H.out 0 (.slice (some ⟨g, o + n, none⟩) (bs.length - n) (c - n))
      refine ⟨some ⟨g, o, none⟩, n, by rw [hlen], by rw [hlen]; simpa using h1, ⟨some ⟨g, o + n, none⟩, c - n, by rw [hr1, hdl]; rfl, by rw [hdl]; exact h2, fun a h => by cases h; exact hne⟩, hg, fun g' o' hA vs hvs => ?_⟩
      cases hA
      have hr2 : ((w.setCell ⟨r, 0, none⟩ (.slice (some ⟨g, o + n, none⟩) (bs.length - n) (c - n))).setCells g o vs).heap[r]? = some (.cells #[.slice (some ⟨g, o + n, none⟩) (bs.drop n).length (c - n), .bool false] 131 (0, 0)) := by
        rw [World.heap_setCells_other _ _ _ _ (by have := (Array.getElem?_eq_some_iff.1 hr1).1; exact this) (fun e => hne e.symm), hr1, hdl]; rfl
      refine ⟨_, _, hr2, ?_, fun a h => by cases h; exact hne⟩
      rw [hlen] at hvs
      rw [hdl]
      rcases h2.form with ⟨h0, _⟩ | ⟨g1, o1, hA1, hb1, hf1, hx1⟩
      · cases h0
      · cases hA1
        refine ⟨h2.len, h2.cap, h2.max, .inr ⟨g, o + n, rfl, ⟨hb1.1, by rw [size_setCells]; exact hb1.2⟩, fun j hj => ?_, fun j u hu => ?_⟩⟩
        · rw [World.cell?_setCells_out g vs o _ _ (fun _ _ => by simp; omega), World.frozen?_setCells]; exact hf1 j hj
        · rw [World.cell?_setCells_out g vs o _ _ (fun _ _ => by simp; omega)]; exact hx1 j u hu
    have FIN := Lib.hid fin
    clear fin ha hs hlen hdl
    go_enter Try.func81, Try.ntmps81
    go_wp2_with fail
    refine wp_scope_fwd 0 rfl ?_
    go_wp2_with fail
    go_ret
    exact FIN.out
end Go.Proofs.Ytnjkklkjlloedaa
