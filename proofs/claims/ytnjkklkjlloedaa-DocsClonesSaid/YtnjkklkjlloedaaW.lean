/- Words of this seat's proofs: byte slices that are read ('Rd'), stretches of cells of the call's own ('Seg'), append over them. -/
import Derived.Test.YtnjkklkjlloedaaProg
import Derived.WalkKit
import Derived.KernelRfl
import Derived.Deep.Upon
import Derived.Deep.Draws
import Derived.Lib.ConvBytes
import Derived.Lib.Hide
import Derived.Deep.QuietTactic
import Derived.BigQuiet
import Derived.Deep.RegionHeld3
namespace Go.Proofs.Ytnjkklkjlloedaa
open Go.RowKit

/-- A byte as a value; bytes as cells. -/
def bv (x : UInt8) : Value := .int .u8 x.toNat
def bvs (l : List UInt8) : List Value := l.map bv
theorem bvs_length (l : List UInt8) : (bvs l).length = l.length := by simp [bvs]
theorem bvs_append (a b : List UInt8) : bvs (a ++ b) = bvs a ++ bvs b := by simp [bvs]
theorem bvs_one (l : List UInt8) : ∀ u ∈ bvs l, u.oneCell' = true := by
  intro u hu
  obtain ⟨_, _, rfl⟩ := List.mem_map.1 hu
  rfl
theorem bvs_get (l : List UInt8) (j : Nat) (h : j < l.length) : (bvs l)[j]? = some (bv l[j]) := by simp [bvs, h]

theorem addr_add (b o j : Nat) : (⟨b, o, none⟩ : Addr).add j = ⟨b, o + j, none⟩ := by unfold Addr.add; split <;> simp_all

/-- A slice of the address A, the length n, the capacity c, whose elements' cells are xs. -/
structure Rd (w : World) (size : Nat) (A : Option Addr) (n c : Nat) (xs : List Value) : Prop where
  len : xs.length = n * size
  cap : n ≤ c
  max : c ≤ maxLen
  nil : A = none → c = 0
  cells : n = 0 ∨ ∃ b o, A = some ⟨b, o, none⟩ ∧ ∀ j u, xs[j]? = some u → w.cell? ⟨b, o + j, none⟩ = some u

/-- A stretch of cells of the call's own: it may be written, up to its capacity. -/
structure Seg (w : World) (base size : Nat) (A : Option Addr) (n c : Nat) (xs : List Value) : Prop where
  len : xs.length = n * size
  cap : n ≤ c
  max : c ≤ maxLen
  form : (A = none ∧ c = 0) ∨ ∃ g o, A = some ⟨g, o, none⟩ ∧ (base ≤ g ∧ g < w.heap.size) ∧
    (∀ j, j < c * size → (w.cell? ⟨g, o + j, none⟩).isSome = true ∧ w.frozen? ⟨g, o + j, none⟩ = false) ∧
    ∀ j u, xs[j]? = some u → w.cell? ⟨g, o + j, none⟩ = some u

theorem Seg.nil (w : World) (base size : Nat) : Seg w base size none 0 0 [] := ⟨by simp, Nat.le_refl _, by simp, .inl ⟨rfl, rfl⟩⟩

theorem Seg.rd {w : World} {base size : Nat} {A : Option Addr} {n c : Nat} {xs : List Value} (h : Seg w base size A n c xs) : Rd w size A n c xs := by
  refine ⟨h.len, h.cap, h.max, fun e => ?_, ?_⟩
  · rcases h.form with ⟨_, hc⟩ | ⟨g, o, hA, _⟩
    · exact hc
    · rw [hA] at e; cases e
  · rcases h.form with ⟨_, hc⟩ | ⟨g, o, hA, _, _, hx⟩
    · exact .inl (by have := h.cap; omega)
    · exact .inr ⟨g, o, hA, hx⟩

theorem Rd.at_ {w : World} {size : Nat} {A : Option Addr} {n c : Nat} {xs : List Value} (h : Rd w size A n c xs) (hn : 0 < n) :
    ∃ b o, A = some ⟨b, o, none⟩ ∧ ∀ j u, xs[j]? = some u → w.cell? ⟨b, o + j, none⟩ = some u := h.cells.resolve_left (by omega)

/-- The beginning of a slice of bytes. -/
theorem Rd.take {w : World} {A : Option Addr} {n c k : Nat} {bs : List UInt8} (h : Rd w 1 A n c (bvs bs)) (hk : k ≤ n) : Rd w 1 A k c (bvs (bs.take k)) := by
  have hl : bs.length = n := by have := h.len; rw [bvs_length] at this; omega
  refine ⟨by rw [bvs_length, List.length_take]; omega, Nat.le_trans hk h.cap, h.max, h.nil, ?_⟩
  rcases h.cells with h0 | ⟨b, o, hA, hx⟩
  · exact .inl (by omega)
  · refine .inr ⟨b, o, hA, fun j u hu => hx j u ?_⟩
    simp only [bvs, List.map_take, List.getElem?_take] at hu
    split at hu
    · exact hu
    · cases hu

/-- What is read stays, while other blocks turn. -/
theorem Rd.kept {w w' : World} {size : Nat} {A : Option Addr} {n c : Nat} {xs : List Value} (h : Rd w size A n c xs) {row : Option Nat} (hg : w.grownBy w' row)
    (hne : ∀ a, A = some a → some a.block ≠ row) : Rd w' size A n c xs := by
  refine ⟨h.len, h.cap, h.max, h.nil, ?_⟩
  rcases h.cells with h0 | ⟨b, o, hA, hx⟩
  · exact .inl h0
  · refine .inr ⟨b, o, hA, fun j u hu => ?_⟩
    exact hg.cell (a := ⟨b, o + j, none⟩) (hx j u hu) (hne ⟨b, o, none⟩ hA)

theorem Rd.lt {w : World} {size : Nat} {A : Option Addr} {n c : Nat} {xs : List Value} (h : Rd w size A n c xs) (hn : 0 < n) (hs : 0 < size) : ∀ a, A = some a → a.block < w.heap.size := by
  intro a ha
  obtain ⟨b, o, hA, hx⟩ := h.cells.resolve_left (by omega)
  rw [hA] at ha
  cases ha
  have hl : 0 < xs.length := by rw [h.len]; exact Nat.mul_pos hn hs
  exact World.block_lt_of_cell? w ⟨b, o + 0, none⟩ (hx 0 _ (List.getElem?_eq_getElem hl))
/-- The same, of a slice that lies below the block that turns. -/
theorem Rd.kept_lt {w w' : World} {size : Nat} {A : Option Addr} {n c : Nat} {xs : List Value} (h : Rd w size A n c xs) {r : Nat} (hg : w.grownBy w' (some r)) (hne : 0 < n → ∀ a, A = some a → a.block ≠ r) : Rd w' size A n c xs := by
  refine ⟨h.len, h.cap, h.max, h.nil, ?_⟩
  rcases h.cells with h0 | ⟨b, o, hA, hx⟩
  · exact .inl h0
  · by_cases hn : n = 0
    · exact .inl hn
    · exact .inr ⟨b, o, hA, fun j u hu => hg.cell (a := ⟨b, o + j, none⟩) (hx j u hu) (by have := hne (by omega) ⟨b, o, none⟩ hA; simpa using this)⟩

theorem Rd.below {w w' : World} {size : Nat} {A : Option Addr} {n c : Nat} {xs : List Value} (h : Rd w size A n c xs) (hb : Below w.heap.size w w') : Rd w' size A n c xs := by
  refine ⟨h.len, h.cap, h.max, h.nil, ?_⟩
  rcases h.cells with h0 | ⟨b, o, hA, hx⟩
  · exact .inl h0
  · refine .inr ⟨b, o, hA, fun j u hu => ?_⟩
    have := hx j u hu
    exact (hb.cell (World.block_lt_of_cell? w _ this)).trans this

theorem Seg.kept {w w' : World} {base size : Nat} {A : Option Addr} {n c : Nat} {xs : List Value} (h : Seg w base size A n c xs) {row : Option Nat} (hg : w.grownBy w' row)
    (hne : ∀ a, A = some a → some a.block ≠ row) : Seg w' base size A n c xs := by
  refine ⟨h.len, h.cap, h.max, ?_⟩
  rcases h.form with hn | ⟨g, o, hA, hb, hf, hx⟩
  · exact .inl hn
  · have hne' := hne ⟨g, o, none⟩ hA
    refine .inr ⟨g, o, hA, ⟨hb.1, Nat.lt_of_lt_of_le hb.2 hg.size⟩, fun j hj => ?_, fun j u hu => hg.cell (a := ⟨g, o + j, none⟩) (hx j u hu) hne'⟩
    obtain ⟨h1, h2⟩ := hf j hj
    obtain ⟨u, hu⟩ := Option.isSome_iff_exists.1 h1
    have hlt := World.block_lt_of_cell? w _ hu
    exact ⟨by rw [hg.cell (a := ⟨g, o + j, none⟩) hu hne']; rfl, (World.frozen?_of_block (w := w) (hg.block g hlt hne')).trans h2⟩

theorem grown_of_below {w w' : World} (h : Below w.heap.size w w') (row : Option Nat) : w.grownBy w' row := ⟨h.os, h.tape, h.output, h.size, fun i hi _ => h.block i hi⟩
theorem below_of_grown {w w' : World} (h : w.grownBy w' none) : Below w.heap.size w w' := ⟨h.os, h.tape, h.output, h.size, fun i hi => h.block i hi (by simp)⟩

theorem Seg.below {w w' : World} {base size : Nat} {A : Option Addr} {n c : Nat} {xs : List Value} (h : Seg w base size A n c xs) (hb : Below w.heap.size w w') : Seg w' base size A n c xs :=
  h.kept (grown_of_below hb none) (by simp)

theorem Seg.mono {w : World} {base base' size : Nat} {A : Option Addr} {n c : Nat} {xs : List Value} (h : Seg w base size A n c xs) (hb : base' ≤ base) : Seg w base' size A n c xs :=
  ⟨h.len, h.cap, h.max, h.form.imp id fun ⟨g, o, hA, hg, r⟩ => ⟨g, o, hA, ⟨Nat.le_trans hb hg.1, hg.2⟩, r⟩⟩

theorem Seg.base_le {w : World} {base size : Nat} {A : Option Addr} {n c : Nat} {xs : List Value} (h : Seg w base size A n c xs) : ∀ a, A = some a → base ≤ a.block := by
  intro a ha
  rcases h.form with ⟨hn, _⟩ | ⟨g, o, hA, hb, _⟩
  · rw [hn] at ha; cases ha
  · rw [hA] at ha; cases ha; exact hb.1

theorem Seg.lt {w : World} {base size : Nat} {A : Option Addr} {n c : Nat} {xs : List Value} (h : Seg w base size A n c xs) : ∀ a, A = some a → a.block < w.heap.size := by
  intro a ha
  rcases h.form with ⟨hn, _⟩ | ⟨g, o, hA, hb, _⟩
  · rw [hn] at ha; cases ha
  · rw [hA] at ha; cases ha; exact hb.2

/-- What a slice yields to an append. -/
theorem Rd.src {P : Program} {w : World} {size : Nat} {A : Option Addr} {n c : Nat} {xs : List Value} (h : Rd w size A n c xs) {tx e' : TypeId} (hk : P.underlying tx = some (.slice e'))
    (h1 : ∀ u ∈ xs, u.oneCell' = true) : Src P size tx (.slice A n c) n xs w := by
  cases A with
  | none =>
    have hc : c = 0 := h.nil rfl
    have hn : n = 0 := by have := h.cap; omega
    subst hc; subst hn
    have : xs = [] := List.eq_nil_of_length_eq_zero (by have := h.len; omega)
    subst this
    exact Src.ofNil w hk 0
  | some a =>
    refine Src.ofSlice w hk a n c xs h.len ?_ h1
    intro j u hu
    rcases h.cells with h0 | ⟨b, o, hA, hx⟩
    · have : xs = [] := List.eq_nil_of_length_eq_zero (by have := h.len; rw [h0] at this; omega)
      subst this; simp at hu
    · cases hA; rw [addr_add]; exact hx j u hu

/-- What is known of an element type. -/
structure EI (P : Program) (t e : TypeId) (z : Value) (size bytes : Nat) : Prop where
  ht : P.underlying t = some (.slice e)
  info : ∃ i, P.info? e = some i ∧ i.zero = some z ∧ i.size = size ∧ i.bytes = bytes
  zs : z.cells.size = size

theorem EI.mk' {P : Program} {t e : TypeId} {z : Value} {size bytes : Nat} (ht : P.underlying t = some (.slice e))
    (hi : (P.info? e).map (fun i => (i.zero, i.size, i.bytes)) = some (some z, size, bytes)) (zs : z.cells.size = size) : EI P t e z size bytes :=
  ⟨ht, let ⟨i, a, b, c, d⟩ := info_parts hi; ⟨i, a, b, c, d⟩, zs⟩

theorem size_setCells (g : Nat) : ∀ (vs : List Value) (o : Nat) (w : World), (w.setCells g o vs).heap.size = w.heap.size := by
  intro vs
  induction vs with
  | nil => intros; rfl
  | cons v r ih => intro o w; rw [World.setCells, ih]; simp [World.setCell]

/-- append onto a stretch of the call's own, of whatever source. -/
theorem run_append_seg {P : Program} {w : World} {t e : TypeId} {z : Value} {size bytes : Nat} (ei : EI P t e z size bytes) (tx ty : TypeId)
    {base : Nat} {A : Option Addr} {n c : Nat} {xs : List Value} (h : Seg w base size A n c xs) (x : Value) (m : Nat) (news : List Value) (hs : Src P size tx x m news w)
    (h63 : n + m ≤ maxLen) (hbytes : (n + m) * bytes ≤ 140737488355328) (hbase : base ≤ w.heap.size) :
    ∃ A' c' w', (Builtin.append_ #[t, tx] ty #[.slice A n c, x]).run P w = .ok (.slice A' (n + m) c') w' ∧ Seg w' base size A' (n + m) c' (xs ++ news) ∧
      w.grownBy w' (A.map (·.block)) ∧ (A' = none → A = none ∧ m = 0) := by
  obtain ⟨ht, ⟨i, hi, hz, rfl, rfl⟩, hzs⟩ := ei
  have hlen : (xs ++ news).length = (n + m) * i.size := by rw [List.length_append, h.len, hs.newsLen, Nat.add_mul]
  by_cases hroom : n + m ≤ c
  · rcases h.form with ⟨rfl, rfl⟩ | ⟨g, o, rfl, hg, hf, hx⟩
    · have hn : n = 0 := by omega
      have hm : m = 0 := by omega
      subst hn; subst hm
      have hnews : news = [] := List.eq_nil_of_length_eq_zero (by have := hs.newsLen; omega)
      subst hnews
      refine ⟨none, 0, w, run_append_nothing w t tx ty e i ht hi none 0 0 (Nat.le_refl _) x hs, ?_, World.grownBy.refl _ _, fun _ => ⟨rfl, rfl⟩⟩
      simpa using h
    · have hnl := hs.newsLen
      have hle : n * i.size + news.length ≤ c * i.size := by
        rw [hnl, ← Nat.add_mul]; exact Nat.mul_le_mul_right _ hroom
      have hc1 : ∀ j, j < news.length → (w.cell? ⟨g, o + n * i.size + j, none⟩).isSome = true := fun j hj => by
        have := (hf (n * i.size + j) (by omega)).1; rwa [← Nat.add_assoc] at this
      have hc2 : ∀ j, j < news.length → w.frozen? ⟨g, o + n * i.size + j, none⟩ = false := fun j hj => by
        have := (hf (n * i.size + j) (by omega)).2; rwa [← Nat.add_assoc] at this
      refine ⟨_, _, _, run_append_room_src w t tx ty e i ht hi g o n c x m news hs hroom hc1 hc2, ⟨hlen, hroom, h.max, .inr ⟨g, o, rfl, ⟨hg.1, by rw [size_setCells]; exact hg.2⟩, fun j hj => ?_, fun j u hu => ?_⟩⟩,
        ⟨World.os_setCells _ _ _ _, ?_, World.output_setCells _ _ _ _, ?_, fun k hk hne => World.heap_setCells_other _ _ _ _ hk (by simpa using hne)⟩, fun h => by cases h⟩
      · obtain ⟨h1, h2⟩ := hf j hj
        refine ⟨?_, by rw [World.frozen?_setCells]; exact h2⟩
        by_cases hin : n * i.size ≤ j ∧ j < n * i.size + news.length
        · have := World.cell?_setCells_in g news (o + n * i.size) w hc1 (j - n * i.size) (by omega)
          rw [show o + n * i.size + (j - n * i.size) = o + j by omega] at this
          rw [this]; rfl
        · rw [World.cell?_setCells_out g news (o + n * i.size) w _ (fun _ _ => by simp; omega)]; exact h1
      · by_cases hin : j < xs.length
        · rw [World.cell?_setCells_out g news (o + n * i.size) w _ (fun _ _ => by have := h.len; simp; omega)]
          exact hx j u (by rwa [List.getElem?_append_left hin] at hu)
        · rw [List.getElem?_append_right (by omega)] at hu
          have hj' : j - xs.length < news.length := (List.getElem?_eq_some_iff.1 hu).1
          have := World.cell?_setCells_in g news (o + n * i.size) w hc1 (j - xs.length) hj'
          have hl := h.len
          rw [show o + n * i.size + (j - xs.length) = o + j by omega] at this
          rw [this]
          rw [List.getElem?_eq_getElem hj'] at hu
          exact hu
      · have : ∀ (vs : List Value) (o : Nat) (w : World), (w.setCells g o vs).tape = w.tape := by
          intro vs
          induction vs with
          | nil => intros; rfl
          | cons v r ih => intro o w; rw [World.setCells, ih]; rfl
        exact this _ _ _
      · rw [size_setCells]; exact Nat.le_refl _
  · have hold : (Builtin.firstCells i.size n (.slice A n c)).run P w.drew = .ok xs.toArray w.drew := by
      rcases h.form with ⟨rfl, rfl⟩ | ⟨g, o, rfl, hg, hf, hx⟩
      · have hn : n = 0 := by have := h.cap; omega
        subst hn
        have : xs = [] := List.eq_nil_of_length_eq_zero (by have := h.len; omega)
        subst this
        exact run_firstCells_none w.drew i.size 0 0 0
      · exact run_firstCells_some w.drew i.size n ⟨g, o, none⟩ n c xs h.len (fun j v hv => by rw [addr_add]; exact hx j v hv)
    have hb := growslice_fits (need := n + m) (old := c) (bytes := i.bytes) (by omega) hbytes
    have hrun := run_append_grow_src w t tx ty e i z ht hi hz A n c xs hold x m news hs (by omega) (by simp only [maxLen] at h63; omega) hb
    have hge := grownCap_ge w (n + m) c e
    have hcm : grownCap w (n + m) c e ≤ maxLen := grownCap_le_maxLen w (n + m) c e h63
    refine ⟨_, _, _, hrun, ⟨hlen, hge, hcm, .inr ⟨w.heap.size, 0, rfl, ⟨hbase, by simp⟩, fun j hj => ?_, fun j u hu => ?_⟩⟩, ⟨rfl, rfl, rfl, by simp, fun k hk _ => heap_alloc_old w.drew _ hk⟩, fun h => by cases h⟩
    · have hnew := heap_alloc_new w.drew (.cells ((xs ++ news).toArray ++ Builtin.zeroCells z.cells (grownCap w (n + m) c e - (n + m))) e)
      have hsz : ((xs ++ news).toArray ++ Builtin.zeroCells z.cells (grownCap w (n + m) c e - (n + m))).size = grownCap w (n + m) c e * i.size := by
        simp only [Array.size_append, List.size_toArray, size_zeroCells, hzs, hlen, ← Nat.add_mul]
        congr 1; omega
      have hw : w.drew.heap.size = w.heap.size := rfl
      rw [hw] at hnew
      constructor
      · simp only [World.cell?, hnew, Nat.zero_add]
        simp only [Option.isSome_none, Bool.false_eq_true, if_false]
        rw [Array.getElem?_eq_getElem (by rw [hsz]; exact hj)]; rfl
      · simp only [World.frozen?, hnew]; simp
    · have hnew := heap_alloc_new w.drew (.cells ((xs ++ news).toArray ++ Builtin.zeroCells z.cells (grownCap w (n + m) c e - (n + m))) e)
      have hw : w.drew.heap.size = w.heap.size := rfl
      rw [hw] at hnew
      have hj : j < (xs ++ news).length := (List.getElem?_eq_some_iff.1 hu).1
      simp only [World.cell?, hnew, Nat.zero_add]
      simp only [Option.isSome_none, Bool.false_eq_true, if_false]
      rw [Array.getElem?_append_left (by simpa using hj)]
      simpa using hu

theorem wpList_append_seg_w {P : Program} {w : World} {ops : Array Oper} {rest : List Oper} {o : Oper} {a : Act} {Q : Exit → Act → World → Prop} (hw : Region.wanted o (yielded ops a.tmps) = true) (s x : Operand) (t tx : TypeId)
    (ho : o.op = .call { callee := .builtin .append, args := #[s, x], argTypes := #[t, tx] })
    {e : TypeId} {z : Value} {size bytes : Nat} (ei : EI P t e z size bytes)
    {base : Nat} {A : Option Addr} {n c : Nat} {xs : List Value} (hs : a.eval s = .slice A n c) (h : Seg w base size A n c xs) {xv : Value} {m : Nat} {news : List Value} (hx : a.eval x = xv) (hsrc : Src P size tx xv m news w)
    (h63 : n + m ≤ maxLen) (hbytes : (n + m) * bytes ≤ 140737488355328) (hbase : base ≤ w.heap.size)
    (hK : ∀ A' c' w', Seg w' base size A' (n + m) c' (xs ++ news) → w.grownBy w' (A.map (·.block)) → (A' = none → A = none ∧ m = 0) → wpList P ops Q rest (a.put o.dst (.slice A' (n + m) c')) w') : wpList P ops Q (o :: rest) a w := by
  refine wpList_step fun K hK' => ?_
  rw [if_pos hw]
  obtain ⟨A', c', w', hr, h2, h3, h4⟩ := run_append_seg ei tx o.type h xv m news hsrc h63 hbytes hbase
  unfold Oper.wp execOp
  simp only [ho, resolve, invoke, builtin, Sem.run_bind, Sem.run_pure, Result.andThen_ok, List.map_toArray, List.map_cons, List.map_nil, hs, hx, hr]
  exact hK' _ _ (hK A' c' w' h2 h3 h4)

theorem wpList_append_seg {P : Program} {w : World} {ops : Array Oper} {rest : List Oper} {o : Oper} {a : Act} {Q : Exit → Act → World → Prop} (hgd : o.guard = none) (s x : Operand) (t tx : TypeId)
    (ho : o.op = .call { callee := .builtin .append, args := #[s, x], argTypes := #[t, tx] })
    {e : TypeId} {z : Value} {size bytes : Nat} (ei : EI P t e z size bytes)
    {base : Nat} {A : Option Addr} {n c : Nat} {xs : List Value} (hs : a.eval s = .slice A n c) (h : Seg w base size A n c xs) {xv : Value} {m : Nat} {news : List Value} (hx : a.eval x = xv) (hsrc : Src P size tx xv m news w)
    (h63 : n + m ≤ maxLen) (hbytes : (n + m) * bytes ≤ 140737488355328) (hbase : base ≤ w.heap.size)
    (hK : ∀ A' c' w', Seg w' base size A' (n + m) c' (xs ++ news) → w.grownBy w' (A.map (·.block)) → (A' = none → A = none ∧ m = 0) → wpList P ops Q rest (a.put o.dst (.slice A' (n + m) c')) w') : wpList P ops Q (o :: rest) a w :=
  wpList_append_seg_w (by simp [Region.wanted, hgd]) s x t tx ho ei hs h hx hsrc h63 hbytes hbase hK

/-- string(b). -/
theorem run_string_rd {P : Program} {w : World} {src dst e : TypeId} (hs : P.underlying src = some (.slice e)) (he : P.underlying e = some (.int .u8)) (hd : P.underlying dst = some .string)
    {A : Option Addr} {n c : Nat} {bs : List UInt8} (h : Rd w 1 A n c (bvs bs)) : (convert src dst (.slice A n c)).run P w = .ok (.string ⟨bs.toArray⟩) w := by
  have hl : bs.length = n := by have := h.len; rw [bvs_length] at this; omega
  cases A with
  | none =>
    have hn : n = 0 := by have := h.nil rfl; have := h.cap; omega
    subst hn
    obtain rfl : bs = [] := List.eq_nil_of_length_eq_zero hl
    exact run_convert_bytes_nil w src e hs he 0 c dst hd
  | some a =>
    subst hl
    refine run_convert_bytes_back w src dst e a c bs hs he hd (fun j hj => ?_)
    obtain ⟨b, o, hA, hx⟩ := h.at_ (by omega)
    cases hA
    rw [addr_add]
    exact hx j _ (bvs_get bs j hj)

/-- v, ok := x.(T), x of the type T. -/
theorem run_typeAssert_yes {P : Program} {t : TypeId} {d : TypeDesc} (hd : P.underlying t = some d) (hni : ∀ ms, d ≠ .interface ms) (x : TypeId) (v : Value) (w : World) :
    (Instr.typeAssert (.iface t v) x t true).run P w = .ok (.tuple #[v, .bool true]) w := by
  unfold Instr.typeAssert
  cases d <;> simp [run_underlying hd] at hni ⊢
/-- v, ok := x.(T), x of another type. -/
theorem run_typeAssert_no {P : Program} {t u : TypeId} {d : TypeDesc} {z : Value} (hd : P.underlying t = some d) (hni : ∀ ms, d ≠ .interface ms) (hz : ∀ w, (zeroValue t).run P w = .ok z w) (hne : u ≠ t) (x : TypeId) (v : Value) (w : World) :
    (Instr.typeAssert (.iface u v) x t true).run P w = .ok (.tuple #[z, .bool false]) w := by
  unfold Instr.typeAssert
  cases d <;> simp [run_underlying hd, hz, hne] at hni ⊢

/-- A scope in which the run may jump, once, to one label ahead. -/
theorem wp_scope_fwd {P : Program} {a : Act} {w : World} {Q : Exit → Act → World → Prop} {c rest : Code} (l : Nat) (hf : findLabel c l = some rest)
    (h : c.wp P (Exit.jump l (fun a w => rest.wp P (Exit.noGoto Q) a w) Q) a w) : (Code.scope c).wp P Q a w :=
  wp_scope_jumps l (fun a w => rest.wp P (Exit.noGoto Q) a w) (fun _ _ => 0) hf h fun _ _ hJ => Code.wp_mono (fun e _ _ q => by cases e <;> first | exact q | exact q.elim) hJ
section
variable {J : Act → World → Prop} {Q : Exit → Act → World → Prop} {a : Act} {w : World} {l : Nat}
theorem Exit.jump_normal : Exit.jump l J Q .normal a w = Q .normal a w := rfl
theorem Exit.jump_exit (id : Nat) : Exit.jump l J Q (.exit id) a w = Q (.exit id) a w := rfl
theorem Exit.jump_ret : Exit.jump l J Q .ret a w = Q .ret a w := rfl
end
attribute [go_sem] Exit.jump_normal Exit.jump_exit Exit.jump_ret

/-! ### A region that draws its order, walked in one order: what reads is taken first (Derived/OrdersHeld) -/
section
variable {P : Program} {ops : Array Oper} {Q : Exit → Act → World → Prop} {md : Region.Mode} {S : World → Prop} {i fuel : Nat} {d : Tmp} {dst : Option Tmp} {op : Op} {ty : TypeId} {pos : String} {after : Array Edge} {gd : Option (Nat × Bool)} {v : Value} {listed : Array Bool} {tmps : Array Value} {df : List Deferred} {w : World}
theorem held_yes (hi : ops[i]? = some ⟨some d, op, ty, pos, after, gd⟩) (hs : Region.noSelect ops = true) (hf : Region.free md ops listed i = true) (hr : (Region.ready md ops listed).contains i = true)
    (hQ : ∀ c a w, Q (.panic c) (a.put (some d) v) w → Q (.panic c) a w) (hw : Region.wanted ⟨some d, op, ty, pos, after, gd⟩ (yielded ops tmps) = true) (hv : ∀ w, S w → (execOp (Act.eval ⟨tmps, df⟩) ⟨some d, op, ty, pos, after, gd⟩).run P w = .ok (.value v) w) (hS : S w)
    (h : wpAnyH P md ops Q S fuel (listed.setIfInBounds i true) ⟨tmps.setIfInBounds d v, df⟩ w) : wpAnyH P md ops Q S (fuel + 1) listed ⟨tmps, df⟩ w :=
  wpAnyH_take hi hs hf hr hQ (.inl ⟨hw, hv⟩) hS h
theorem held_no (hi : ops[i]? = some ⟨some d, op, ty, pos, after, gd⟩) (hs : Region.noSelect ops = true) (hf : Region.free md ops listed i = true) (hr : (Region.ready md ops listed).contains i = true)
    (hQ : ∀ c a w, Q (.panic c) (a.put (some d) undef) w → Q (.panic c) a w) (hw : Region.wanted ⟨some d, op, ty, pos, after, gd⟩ (yielded ops tmps) = false) (hS : S w)
    (h : wpAnyH P md ops Q S fuel (listed.setIfInBounds i true) ⟨tmps.setIfInBounds d undef, df⟩ w) : wpAnyH P md ops Q S (fuel + 1) listed ⟨tmps, df⟩ w :=
  wpAnyH_take hi hs hf hr hQ (.inr ⟨hw, rfl⟩) hS h
theorem held_only (hr : Region.ready md ops listed = [i]) (hi : ops[i]? = some ⟨dst, op, ty, pos, after, gd⟩)
    (h : ∀ K' : Act → World → Prop, Shut (∀ a w, S w → (S w → wpAnyH P md ops Q S fuel (listed.setIfInBounds i true) a w) → K' a w) → if Region.wanted ⟨dst, op, ty, pos, after, gd⟩ (yielded ops tmps) = true then Oper.wp P ⟨dst, op, ty, pos, after, gd⟩ ⟨tmps, df⟩ w K' Q else K' ((⟨tmps, df⟩ : Act).put dst undef) w) : wpAnyH P md ops Q S (fuel + 1) listed ⟨tmps, df⟩ w :=
  wpAnyH_ready hr (by simp) (AllReadyH.cons hi h AllReadyH.nil)
end

#print axioms wpList_append_seg
#print axioms run_string_rd
end Go.Proofs.Ytnjkklkjlloedaa
