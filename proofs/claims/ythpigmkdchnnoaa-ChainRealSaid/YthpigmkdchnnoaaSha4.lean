/- The contract of sha.New; the hash's block. -/
import Derived.Test.YthpigmkdchnnoaaSha3
namespace Go.Proofs.Ythpigmkdchnnoaa
open Go.RowKit
set_option linter.unusedVariables false
set_option linter.unusedSimpArgs false

/-- The cells of a Hash. -/
def hCells (st : List Nat) (rest : Value) (cnt : Int) : Array Value := (st.map u32 ++ [rest, .int .i64 cnt]).toArray
def h0 : List Nat := [1779033703, 3144134277, 1013904242, 2773480762, 1359893119, 2600822924, 528734635, 1541459225]
theorem h0_ok : h0.length = 8 ∧ ∀ y ∈ h0, y < 4294967296 := by decide

theorem new_any (w : World) : Calls Try.prog 45 #[] w fun e w' => e = .returned (.pointer (some ⟨w.heap.size, 0, none⟩)) ∧ w' = w.alloc (.cells (hCells h0 (.slice none 0 0) 0) 105 (0, 0)) := by
  go_enter Try.func45, Try.ntmps45
  go_wp2_with fail
  go_ret
  exact ⟨rfl, rfl⟩

/-- Of the old blocks those of S alone may be turned. -/
structure Touch (S : Nat → Prop) (w w' : World) : Prop where
  os : w'.os = w.os
  tape : w'.tape = w.tape
  output : w'.output = w.output
  size : w.heap.size ≤ w'.heap.size
  block : ∀ k, k < w.heap.size → ¬ S k → w'.heap[k]? = w.heap[k]?
namespace Touch
variable {S : Nat → Prop} {w w' w'' : World}
theorem refl (S : Nat → Prop) (w : World) : Touch S w w := ⟨rfl, rfl, rfl, Nat.le_refl _, fun _ _ _ => rfl⟩
/-- Blocks that are made in between may be turned too. -/
theorem trans {S' : Nat → Prop} (h : Touch S w w') (h' : Touch S' w' w'') (hS : ∀ k, k < w.heap.size → S' k → S k) : Touch S w w'' :=
  ⟨h'.os.trans h.os, h'.tape.trans h.tape, h'.output.trans h.output, Nat.le_trans h.size h'.size, fun k hk hn => (h'.block k (Nat.lt_of_lt_of_le hk h.size) (fun e => hn (hS k hk e))).trans (h.block k hk hn)⟩
theorem of_below (hb : Below w.heap.size w w') : Touch S w w' := ⟨hb.os, hb.tape, hb.output, hb.size, fun k hk _ => hb.block k hk⟩
theorem of_grown {row : Option Nat} (hg : w.grownBy w' row) (hr : ∀ k, row = some k → k < w.heap.size → S k) : Touch S w w' :=
  ⟨hg.os, hg.tape, hg.output, hg.size, fun k hk hn => hg.block k hk (fun e => hn (hr k e.symm hk))⟩
theorem setCell (w : World) (p : Addr) (u : Value) (hp : S p.block) : Touch S w (w.setCell p u) :=
  ⟨rfl, rfl, rfl, by simp [World.setCell], fun k _ hn => Below.heap_setCell _ _ _ _ (fun e => hn (e ▸ hp))⟩
theorem drew (h : Touch S w w') : Touch S w w'.drew := ⟨h.os, h.tape, h.output, h.size, h.block⟩
theorem below {B : Nat} (h : Touch S w w') (hS : ∀ k, k < w.heap.size → S k → B ≤ k) (hB : B ≤ w.heap.size) : Below B w w' :=
  ⟨h.os, h.tape, h.output, h.size, fun k hk => h.block k (Nat.lt_of_lt_of_le hk hB) (fun e => by have := hS k (Nat.lt_of_lt_of_le hk hB) e; omega)⟩
theorem cell (h : Touch S w w') {p : Addr} (hp : p.block < w.heap.size) (hn : ¬ S p.block) : w'.cell? p = w.cell? p := World.cell?_of_block (w := w) (h.block p.block hp hn)
theorem frozen (h : Touch S w w') {p : Addr} (hp : p.block < w.heap.size) (hn : ¬ S p.block) : w'.frozen? p = w.frozen? p := World.frozen?_of_block (w := w) (h.block p.block hp hn)
end Touch
theorem Touch.setCells {S : Nat → Prop} (g : Nat) (hg : S g) : ∀ (vs : List Value) (o : Nat) (w : World), Touch S w (w.setCells g o vs)
  | [], _, w => Touch.refl S w
  | v :: r, o, w => (Touch.setCell w ⟨g, o, none⟩ v hg).trans (Touch.setCells g hg r (o + 1) _) (fun _ _ h => h)
theorem Rd.touch {w w' : World} {S : Nat → Prop} {size : Nat} {A : Option Addr} {n c : Nat} {xs : List Value} (h : Rd w size A n c xs) (ht : Touch S w w') (hS : ∀ a, A = some a → ¬ S a.block) : Rd w' size A n c xs := by
  refine ⟨h.len, h.cap, h.max, h.nil, ?_⟩
  rcases h.cells with h0 | ⟨b, o, hA, hx⟩
  · exact .inl h0
  · exact .inr ⟨b, o, hA, fun j u hu => (ht.cell (p := ⟨b, o + j, none⟩) (World.block_lt_of_cell? w _ (hx j u hu)) (hS ⟨b, o, none⟩ hA)).trans (hx j u hu)⟩
theorem Seg.touch {w w' : World} {S : Nat → Prop} {base size : Nat} {A : Option Addr} {n c : Nat} {xs : List Value} (h : Seg w base size A n c xs) (ht : Touch S w w') (hS : ∀ a, A = some a → ¬ S a.block) : Seg w' base size A n c xs := by
  refine ⟨h.len, h.cap, h.max, ?_⟩
  rcases h.form with hn | ⟨g, o, hA, hb, hf, hx⟩
  · exact .inl hn
  · refine .inr ⟨g, o, hA, ⟨hb.1, Nat.lt_of_lt_of_le hb.2 ht.size⟩, fun j hj => ?_, fun j u hu => (ht.cell (p := ⟨g, o + j, none⟩) hb.2 (hS ⟨g, o, none⟩ hA)).trans (hx j u hu)⟩
    rw [ht.cell (p := ⟨g, o + j, none⟩) hb.2 (hS ⟨g, o, none⟩ hA), ht.frozen (p := ⟨g, o + j, none⟩) hb.2 (hS ⟨g, o, none⟩ hA)]
    exact hf j hj
/-- s[k:] (at the capacity's end the address stays). -/
theorem Seg.from {w : World} {base : Nat} {g o n c k : Nat} {xs : List Value} (h : Seg w base 1 (some ⟨g, o, none⟩) n c xs) (hk : k ≤ n) : Seg w base 1 (if c = k then some ⟨g, o, none⟩ else some ⟨g, o + k, none⟩) (n - k) (c - k) (xs.drop k) := by
  have hl := h.len
  have hc := h.cap
  have hm := h.max
  refine ⟨by rw [List.length_drop]; omega, by omega, by omega, ?_⟩
  rcases h.form with ⟨hn, _⟩ | ⟨g', o', hA, hb, hf, hx⟩
  · cases hn
  · cases hA
    by_cases hck : c = k
    · rw [if_pos hck]
      refine .inr ⟨g, o, rfl, hb, fun j hj => by omega, fun j u hu => ?_⟩
      rw [List.getElem?_eq_none (by rw [List.length_drop]; omega)] at hu
      cases hu
    · rw [if_neg hck]
      refine .inr ⟨g, o + k, rfl, hb, fun j hj => ?_, fun j u hu => ?_⟩
      · rw [Nat.add_assoc]; exact hf (k + j) (by omega)
      · rw [Nat.add_assoc]; exact hx (k + j) u (by rw [List.getElem?_drop] at hu; exact hu)

/-- Where an append's slice lies: where the old one lay, or in a block made since. -/
def Lies (w : World) (A A' : Option Addr) : Prop := ∀ a', A' = some a' → (∃ a, A = some a ∧ a'.block = a.block) ∨ w.heap.size ≤ a'.block
theorem run_append_at {P : Program} {w : World} {t e : TypeId} {z : Value} {size bytes : Nat} (ei : EI P t e z size bytes) (tx ty : TypeId)
    {base : Nat} {A : Option Addr} {n c : Nat} {xs : List Value} (h : Seg w base size A n c xs) (x : Value) (m : Nat) (news : List Value) (hs : Src P size tx x m news w)
    (h63 : n + m ≤ maxLen) (hbytes : (n + m) * bytes ≤ 140737488355328) (hbase : base ≤ w.heap.size) :
    ∃ A' c' w', (Builtin.append_ #[t, tx] ty #[.slice A n c, x]).run P w = .ok (.slice A' (n + m) c') w' ∧ Seg w' base size A' (n + m) c' (xs ++ news) ∧
      w.grownBy w' (A.map (·.block)) ∧ Lies w A A' := by
  obtain ⟨ht, ⟨i, hi, hz, rfl, rfl⟩, hzs⟩ := ei
  have hlen : (xs ++ news).length = (n + m) * i.size := by rw [List.length_append, h.len, hs.newsLen, Nat.add_mul]
  by_cases hroom : n + m ≤ c
  · rcases h.form with ⟨rfl, rfl⟩ | ⟨g, o, rfl, hg, hf, hx⟩
    · have hn : n = 0 := by omega
      have hm : m = 0 := by omega
      subst hn; subst hm
      have hnews : news = [] := List.eq_nil_of_length_eq_zero (by have := hs.newsLen; omega)
      subst hnews
      refine ⟨none, 0, w, run_append_nothing w t tx ty e i ht hi none 0 0 (Nat.le_refl _) x hs, ?_, World.grownBy.refl _ _, fun a ha => by cases ha⟩
      simpa using h
    · have hnl := hs.newsLen
      have hle : n * i.size + news.length ≤ c * i.size := by
        rw [hnl, ← Nat.add_mul]; exact Nat.mul_le_mul_right _ hroom
      have hc1 : ∀ j, j < news.length → (w.cell? ⟨g, o + n * i.size + j, none⟩).isSome = true := fun j hj => by
        have := (hf (n * i.size + j) (by omega)).1; rwa [← Nat.add_assoc] at this
      have hc2 : ∀ j, j < news.length → w.frozen? ⟨g, o + n * i.size + j, none⟩ = false := fun j hj => by
        have := (hf (n * i.size + j) (by omega)).2; rwa [← Nat.add_assoc] at this
      refine ⟨_, _, _, run_append_room_src w t tx ty e i ht hi g o n c x m news hs hroom hc1 hc2, ⟨hlen, hroom, h.max, .inr ⟨g, o, rfl, ⟨hg.1, by rw [size_setCells]; exact hg.2⟩, fun j hj => ?_, fun j u hu => ?_⟩⟩,
        ⟨World.os_setCells _ _ _ _, ?_, World.output_setCells _ _ _ _, ?_, fun k hk hne => World.heap_setCells_other _ _ _ _ hk (by simpa using hne)⟩, fun a ha => .inl ⟨_, rfl, by cases ha; rfl⟩⟩
      · obtain ⟨h1, h2⟩ := hf j hj
        refine ⟨?_, by rw [World.frozen?_setCells]; exact h2⟩
        by_cases hin : n * i.size ≤ j ∧ j < n * i.size + news.length
        · have := World.cell?_setCells_in g news (o + n * i.size) w hc1 (j - n * i.size) (by omega)
          rw [show o + n * i.size + (j - n * i.size) = o + j by omega] at this
          rw [this]; rfl
        · rw [World.cell?_setCells_out g news (o + n * i.size) w _ (fun _ _ => by simp; omega)]; exact h1
      · by_cases hin : j < xs.length
        · rw [World.cell?_setCells_out g news (o + n * i.size) w _ (fun _ _ => by have := h.len; simp; omega)]
          exact hx j u (by rwa [List.getElem?_append_left hin] at hu)
        · rw [List.getElem?_append_right (by omega)] at hu
          have hj' : j - xs.length < news.length := (List.getElem?_eq_some_iff.1 hu).1
          have := World.cell?_setCells_in g news (o + n * i.size) w hc1 (j - xs.length) hj'
          have hl := h.len
          rw [show o + n * i.size + (j - xs.length) = o + j by omega] at this
          rw [this]
          rw [List.getElem?_eq_getElem hj'] at hu
          exact hu
      · have : ∀ (vs : List Value) (o : Nat) (w : World), (w.setCells g o vs).tape = w.tape := by
          intro vs
          induction vs with
          | nil => intros; rfl
          | cons v r ih => intro o w; rw [World.setCells, ih]; rfl
        exact this _ _ _
      · rw [size_setCells]; exact Nat.le_refl _
  · have hold : (Builtin.firstCells i.size n (.slice A n c)).run P w.drew = .ok xs.toArray w.drew := by
      rcases h.form with ⟨rfl, rfl⟩ | ⟨g, o, rfl, hg, hf, hx⟩
      · have hn : n = 0 := by have := h.cap; omega
        subst hn
        have : xs = [] := List.eq_nil_of_length_eq_zero (by have := h.len; omega)
        subst this
        exact run_firstCells_none w.drew i.size 0 0 0
      · exact run_firstCells_some w.drew i.size n ⟨g, o, none⟩ n c xs h.len (fun j v hv => by rw [addr_add]; exact hx j v hv)
    have hb := growslice_fits (need := n + m) (old := c) (bytes := i.bytes) (by omega) hbytes
    have hrun := run_append_grow_src w t tx ty e i z ht hi hz A n c xs hold x m news hs (by omega) (by simp only [maxLen] at h63; omega) hb
    have hge := grownCap_ge w (n + m) c e
    have hcm : grownCap w (n + m) c e ≤ maxLen := grownCap_le_maxLen w (n + m) c e h63
    refine ⟨_, _, _, hrun, ⟨hlen, hge, hcm, .inr ⟨w.heap.size, 0, rfl, ⟨hbase, by simp⟩, fun j hj => ?_, fun j u hu => ?_⟩⟩, ⟨rfl, rfl, rfl, by simp, fun k hk _ => heap_alloc_old w.drew _ hk⟩, fun a ha => .inr (by cases ha; exact Nat.le_refl _)⟩
    · have hnew := heap_alloc_new w.drew (.cells ((xs ++ news).toArray ++ Builtin.zeroCells z.cells (grownCap w (n + m) c e - (n + m))) e)
      have hsz : ((xs ++ news).toArray ++ Builtin.zeroCells z.cells (grownCap w (n + m) c e - (n + m))).size = grownCap w (n + m) c e * i.size := by
        simp only [Array.size_append, List.size_toArray, size_zeroCells, hzs, hlen, ← Nat.add_mul]
        congr 1; omega
      have hw : w.drew.heap.size = w.heap.size := rfl
      rw [hw] at hnew
      constructor
      · simp only [World.cell?, hnew, Nat.zero_add]
        simp only [Option.isSome_none, Bool.false_eq_true, if_false]
        rw [Array.getElem?_eq_getElem (by rw [hsz]; exact hj)]; rfl
      · simp only [World.frozen?, hnew]; simp
    · have hnew := heap_alloc_new w.drew (.cells ((xs ++ news).toArray ++ Builtin.zeroCells z.cells (grownCap w (n + m) c e - (n + m))) e)
      have hw : w.drew.heap.size = w.heap.size := rfl
      rw [hw] at hnew
      have hj : j < (xs ++ news).length := (List.getElem?_eq_some_iff.1 hu).1
      simp only [World.cell?, hnew, Nat.zero_add]
      simp only [Option.isSome_none, Bool.false_eq_true, if_false]
      rw [Array.getElem?_append_left (by simpa using hj)]
      simpa using hu

theorem wpList_append_at_w {P : Program} {w : World} {ops : Array Oper} {rest : List Oper} {o : Oper} {a : Act} {Q : Exit → Act → World → Prop} (hw : Region.wanted o (yielded ops a.tmps) = true) (s x : Operand) (t tx : TypeId)
    (ho : o.op = .call { callee := .builtin .append, args := #[s, x], argTypes := #[t, tx] })
    {e : TypeId} {z : Value} {size bytes : Nat} (ei : EI P t e z size bytes)
    {base : Nat} {A : Option Addr} {n c : Nat} {xs : List Value} (hs : a.eval s = .slice A n c) (h : Seg w base size A n c xs) {xv : Value} {m : Nat} {news : List Value} (hx : a.eval x = xv) (hsrc : Src P size tx xv m news w)
    (h63 : n + m ≤ maxLen) (hbytes : (n + m) * bytes ≤ 140737488355328) (hbase : base ≤ w.heap.size)
    (hK : ∀ A' c' w', Seg w' base size A' (n + m) c' (xs ++ news) → w.grownBy w' (A.map (·.block)) → Lies w A A' → wpList P ops Q rest (a.put o.dst (.slice A' (n + m) c')) w') : wpList P ops Q (o :: rest) a w := by
  refine wpList_step fun K hK' => ?_
  rw [if_pos hw]
  obtain ⟨A', c', w', hr, h2, h3, h4⟩ := run_append_at ei tx o.type h xv m news hsrc h63 hbytes hbase
  unfold Oper.wp execOp
  simp only [ho, resolve, invoke, builtin, Sem.run_bind, Sem.run_pure, Result.andThen_ok, List.map_toArray, List.map_cons, List.map_nil, hs, hx, hr]
  exact hK' _ _ (hK A' c' w' h2 h3 h4)

theorem wpList_append_at {P : Program} {w : World} {ops : Array Oper} {rest : List Oper} {o : Oper} {a : Act} {Q : Exit → Act → World → Prop} (hgd : o.guard = none) (s x : Operand) (t tx : TypeId)
    (ho : o.op = .call { callee := .builtin .append, args := #[s, x], argTypes := #[t, tx] })
    {e : TypeId} {z : Value} {size bytes : Nat} (ei : EI P t e z size bytes)
    {base : Nat} {A : Option Addr} {n c : Nat} {xs : List Value} (hs : a.eval s = .slice A n c) (h : Seg w base size A n c xs) {xv : Value} {m : Nat} {news : List Value} (hx : a.eval x = xv) (hsrc : Src P size tx xv m news w)
    (h63 : n + m ≤ maxLen) (hbytes : (n + m) * bytes ≤ 140737488355328) (hbase : base ≤ w.heap.size)
    (hK : ∀ A' c' w', Seg w' base size A' (n + m) c' (xs ++ news) → w.grownBy w' (A.map (·.block)) → Lies w A A' → wpList P ops Q rest (a.put o.dst (.slice A' (n + m) c')) w') : wpList P ops Q (o :: rest) a w :=
  wpList_append_at_w (by simp [Region.wanted, hgd]) s x t tx ho ei hs h hx hsrc h63 hbytes hbase hK

/-- The state behind k blocks of a message. -/
def stN (msg : List UInt8) : Nat → List Nat
  | 0 => h0
  | k + 1 => compB (msg.drop (64 * k)) (stN msg k)
theorem stN_ok (msg : List UInt8) : ∀ k, (stN msg k).length = 8 ∧ ∀ y ∈ stN msg k, y < 4294967296
  | 0 => h0_ok
  | k + 1 => comp_ok _ (stN_ok msg k)
theorem wordAt_take (bs : List UInt8) (m t : Nat) (ht : 4 * t + 3 < m) : wordAt (bs.take m) t = wordAt bs t := by
  unfold wordAt
  simp only [List.getD_eq_getElem?_getD, List.getElem?_take, show 4 * t < m by omega, show 4 * t + 1 < m by omega, show 4 * t + 2 < m by omega, ht, if_true]
theorem sched_take (bs : List UInt8) (m : Nat) (hm : 64 ≤ m) : ∀ t, sched (bs.take m) t = sched bs t
  | 0 => rfl
  | t + 1 => by
    rw [sched, sched, sched_take bs m hm t]
    by_cases h : t < 16
    · rw [if_pos h, if_pos h, wordAt_take bs m t (by omega)]
    · rw [if_neg h, if_neg h]
theorem compB_take (bs : List UInt8) (m : Nat) (hm : 64 ≤ m) (s : List Nat) : compB (bs.take m) s = compB bs s := by
  rw [compB, compB, sched_take bs m hm]
theorem stN_take (msg : List UInt8) (m : Nat) : ∀ k, 64 * k ≤ m → stN (msg.take m) k = stN msg k
  | 0, _ => rfl
  | k + 1, h => by
    rw [stN, stN, stN_take msg m k (by omega), List.drop_take, compB_take _ _ (by omega)]
theorem stN_append (msg bs : List UInt8) (k : Nat) (h : 64 * k ≤ msg.length) : stN (msg ++ bs) k = stN msg k := by
  have h1 := stN_take (msg ++ bs) msg.length k h
  rw [List.take_left] at h1
  exact h1.symm

/-- hb holds the hash of the first part of msg, k blocks of it taken in. -/
structure Hsh (w : World) (base hb : Nat) (k : Nat) (A : Option Addr) (n c : Nat) (cnt : Int) (msg : List UInt8) : Prop where
  row : w.heap[hb]? = some (.cells (hCells (stN msg k) (.slice A n c) cnt) 105 (0, 0))
  seg : Seg w (hb + 1) 1 A n c (bvs (msg.drop (64 * k)))
  base : base ≤ hb
  le : 64 * k ≤ msg.length
end Go.Proofs.Ythpigmkdchnnoaa
