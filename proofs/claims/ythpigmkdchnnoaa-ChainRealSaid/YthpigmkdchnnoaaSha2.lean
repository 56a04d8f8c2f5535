/- The contract of sha.schedule. -/
import Derived.Test.YthpigmkdchnnoaaSha1
import Derived.Deep.MidRow
import Derived.Lib.LazyBuf
namespace Go.Proofs.Ythpigmkdchnnoaa
open Go.RowKit
set_option linter.unusedVariables false
set_option linter.unusedSimpArgs false

def wordAt (bs : List UInt8) (t : Nat) : Nat := (bs.getD (4 * t) 0).toNat * 16777216 + (bs.getD (4 * t + 1) 0).toNat * 65536 + (bs.getD (4 * t + 2) 0).toNat * 256 + (bs.getD (4 * t + 3) 0).toNat
def sg0 (x : Nat) : Nat := rotr 7 x ^^^ rotr 18 x ^^^ x / 8
def sg1 (x : Nat) : Nat := rotr 17 x ^^^ rotr 19 x ^^^ x / 1024
def schedStep (ws : List Nat) (t : Nat) : Nat := (sg1 (ws.getD (t - 2) 0) + ws.getD (t - 7) 0 + sg0 (ws.getD (t - 15) 0) + ws.getD (t - 16) 0) % 4294967296
/-- A block's numbers, the first t of them. -/
def sched (bs : List UInt8) : Nat → List Nat
  | 0 => []
  | t + 1 => sched bs t ++ [if t < 16 then wordAt bs t else schedStep (sched bs t) t]
theorem sched_length (bs : List UInt8) (t : Nat) : (sched bs t).length = t := by
  induction t with
  | zero => rfl
  | succ t ih => simp [sched, ih]
theorem wordAt_lt (bs : List UInt8) (t : Nat) : wordAt bs t < 4294967296 := by
  unfold wordAt
  have h0 := (bs.getD (4 * t) 0).toNat_lt
  have h1 := (bs.getD (4 * t + 1) 0).toNat_lt
  have h2 := (bs.getD (4 * t + 2) 0).toNat_lt
  have h3 := (bs.getD (4 * t + 3) 0).toNat_lt
  omega
theorem sched_lt (bs : List UInt8) (t : Nat) : ∀ x ∈ sched bs t, x < 4294967296 := by
  induction t with
  | zero => simp [sched]
  | succ t ih =>
    intro x hx
    rcases List.mem_append.1 hx with h | h
    · exact ih x h
    · rw [List.mem_singleton.1 h]
      split
      · exact wordAt_lt bs t
      · exact Nat.mod_lt _ (by decide)
theorem sched_getD_lt (bs : List UInt8) (t j : Nat) : (sched bs t).getD j 0 < 4294967296 := by
  rw [List.getD_eq_getElem?_getD]
  cases h : (sched bs t)[j]? with
  | none => decide
  | some x => exact sched_lt bs t x (List.mem_of_getElem? h)

/-- The row of the numbers behind t rounds. -/
def wArr (bs : List UInt8) (t : Nat) : Array Value := ((sched bs t ++ List.replicate (64 - t) 0).map u32).toArray
theorem wArr_size (bs : List UInt8) (t : Nat) (h : t ≤ 64) : (wArr bs t).size = 64 := by simp [wArr, sched_length]; omega
theorem wArr_get (bs : List UInt8) (t j : Nat) (h : j < t) : (wArr bs t)[j]? = some (u32 ((sched bs t).getD j 0)) := by
  have hl := sched_length bs t
  simp only [wArr, List.getElem?_toArray, List.getElem?_map]
  rw [List.getElem?_append_left (by omega), List.getElem?_eq_getElem (by omega)]
  simp [List.getD_eq_getElem?_getD, List.getElem?_eq_getElem (show j < (sched bs t).length by omega)]
theorem wArr_set (bs : List UInt8) (t : Nat) (h : t < 64) (x : Nat) (hx : (if t < 16 then wordAt bs t else schedStep (sched bs t) t) = x) : (wArr bs t).setIfInBounds t (u32 x) = wArr bs (t + 1) := by
  have hl := sched_length bs t
  subst hx
  unfold wArr
  rw [List.setIfInBounds_toArray]
  congr 1
  rw [← List.map_set, List.set_append_right _ _ (by omega), hl, Nat.sub_self, show 64 - t = (64 - (t + 1)) + 1 by omega, List.replicate_succ, List.set_cons_zero]
  simp [sched]

theorem byte_at {w : World} {b o : Nat} {bs : List UInt8} (hx : ∀ j u, (bvs bs)[j]? = some u → w.cell? ⟨b, o + j, none⟩ = some u) (j : Nat) (hj : j < bs.length) : w.cell? ⟨b, o + j, none⟩ = some (.int .u8 ((bs.getD j 0).toNat : Int)) := by
  rw [hx j _ (bvs_get bs j hj)]
  simp [bv, List.getD_eq_getElem?_getD, hj]

theorem word_value (x0 x1 x2 x3 : Nat) (b0 : x0 < 2 ^ 8) (b1 : x1 < 2 ^ 8) (b2 : x2 < 2 ^ 8) (b3 : x3 < 2 ^ 8) :
    bits .or .u32 (bits .or .u32 (bits .or .u32 (IntKind.u32.wrap (IntKind.u32.wrap (x0 : Int) * 16777216)) (IntKind.u32.wrap (IntKind.u32.wrap (x1 : Int) * 65536))) (IntKind.u32.wrap (IntKind.u32.wrap (x2 : Int) * 256))) (IntKind.u32.wrap (x3 : Int)) = ((x0 * 16777216 + x1 * 65536 + x2 * 256 + x3 : Nat) : Int) := by
  rw [wraps_u32 x0 (by omega) (by omega), wraps_u32 x1 (by omega) (by omega), wraps_u32 x2 (by omega) (by omega), wraps_u32 x3 (by omega) (by omega)]
  rw [wraps_u32 (x0 * 16777216) (by omega) (by omega), wraps_u32 (x1 * 65536) (by omega) (by omega), wraps_u32 (x2 * 256) (by omega) (by omega)]
  have e0 : ((x0 : Int) * 16777216) = ((2 ^ 24 * x0 : Nat) : Int) := by omega
  have e1 : ((x1 : Int) * 65536) = ((x1 * 65536 : Nat) : Int) := by omega
  have e2 : ((x2 : Int) * 256) = ((x2 * 256 : Nat) : Int) := by omega
  rw [e0, e1, e2, or_u32 _ _ (by omega) (by omega), ← Nat.two_pow_add_eq_or_of_lt (by omega) x0]
  rw [or_u32 _ _ (by omega) (by omega), show 2 ^ 24 * x0 + x1 * 65536 = 2 ^ 16 * (2 ^ 8 * x0 + x1) by omega, ← Nat.two_pow_add_eq_or_of_lt (by omega)]
  rw [or_u32 _ _ (by omega) (by omega), show 2 ^ 16 * (2 ^ 8 * x0 + x1) + x2 * 256 = 2 ^ 8 * (2 ^ 16 * x0 + 2 ^ 8 * x1 + x2) by omega, ← Nat.two_pow_add_eq_or_of_lt (by omega)]
  omega

theorem step_value (x2 x7 x15 x16 : Nat) (b2 : x2 < 4294967296) (b15 : x15 < 4294967296) :
    IntKind.u32.wrap (IntKind.u32.wrap (IntKind.u32.wrap (bits .xor .u32 (bits .xor .u32 (rotr 17 x2 : Nat) (rotr 19 x2 : Nat)) ((x2 : Int) / 1024) + (x7 : Int)) + bits .xor .u32 (bits .xor .u32 (rotr 7 x15 : Nat) (rotr 18 x15 : Nat)) ((x15 : Int) / 8)) + (x16 : Int)) = (((sg1 x2 + x7 + sg0 x15 + x16) % 4294967296 : Nat) : Int) := by
  have r17 := rotr_lt 17 x2 b2
  have r19 := rotr_lt 19 x2 b2
  have r7 := rotr_lt 7 x15 b15
  have r18 := rotr_lt 18 x15 b15
  have d2 : x2 / 1024 < 4294967296 := by omega
  have d15 : x15 / 8 < 4294967296 := by omega
  rw [show ((x2 : Int) / 1024) = ((x2 / 1024 : Nat) : Int) by omega, show ((x15 : Int) / 8) = ((x15 / 8 : Nat) : Int) by omega, xor_u32 _ _ r17 r19, xor_u32 _ _ r7 r18, xor_u32 _ _ (Nat.xor_lt_two_pow (n := 32) r17 r19) d2, xor_u32 _ _ (Nat.xor_lt_two_pow (n := 32) r7 r18) d15]
  simp only [sg0, sg1, IntKind.wrap_u32]
  generalize rotr 17 x2 ^^^ rotr 19 x2 ^^^ x2 / 1024 = a
  generalize rotr 7 x15 ^^^ rotr 18 x15 ^^^ x15 / 8 = b
  omega

theorem keep2 {g o0 o1 t : Nat} {w : World} {v0 v1 v : Value} (h0 : o0 ≠ t) (h1 : o1 ≠ t) (k : w.cell? ⟨g, o0, none⟩ = some v0 ∧ w.cell? ⟨g, o1, none⟩ = some v1) :
    (w.setCell ⟨g, t, none⟩ v).cell? ⟨g, o0, none⟩ = some v0 ∧ (w.setCell ⟨g, t, none⟩ v).cell? ⟨g, o1, none⟩ = some v1 := by
  rw [World.cell?_setCell_other _ _ _ _ (by simp [h0]), World.cell?_setCell_other _ _ _ _ (by simp [h1])]; exact k
theorem cell_below' {w wr : World} (hb : Below w.heap.size w wr) {a : Addr} {v : Value} (h : w.cell? a = some v) : wr.cell? a = some v := (hb.cell (World.block_lt_of_cell? w _ h)).trans h
theorem keep4 {B b o0 o1 o2 o3 : Nat} {w w' : World} {v0 v1 v2 v3 : Value} (hb : Below B w w') (h : b < B) (k : w.cell? ⟨b, o0, none⟩ = some v0 ∧ w.cell? ⟨b, o1, none⟩ = some v1 ∧ w.cell? ⟨b, o2, none⟩ = some v2 ∧ w.cell? ⟨b, o3, none⟩ = some v3) :
    w'.cell? ⟨b, o0, none⟩ = some v0 ∧ w'.cell? ⟨b, o1, none⟩ = some v1 ∧ w'.cell? ⟨b, o2, none⟩ = some v2 ∧ w'.cell? ⟨b, o3, none⟩ = some v3 := by
  rw [hb.cell h, hb.cell h, hb.cell h, hb.cell h]; exact k
theorem row_step {w wr : World} {bs : List UInt8} {t : Nat} (hlt : t < 64) (x : Nat) (hx : (if t < 16 then wordAt bs t else schedStep (sched bs t) t) = x)
    (hz : wr.heap[w.heap.size]? = some (.cells (wArr bs 0) 107 (0, 0))) (hw : wr.heap[w.heap.size + 1]? = some (.cells (wArr bs t) 107 (0, 0))) (hb : Below w.heap.size w wr) :
    (wr.setCell ⟨w.heap.size + 1, t, none⟩ (u32 x)).drew.heap[w.heap.size]? = some (.cells (wArr bs 0) 107 (0, 0)) ∧
    (wr.setCell ⟨w.heap.size + 1, t, none⟩ (u32 x)).drew.heap[w.heap.size + 1]? = some (.cells (wArr bs (t + 1)) 107 (0, 0)) ∧
    Below w.heap.size w (wr.setCell ⟨w.heap.size + 1, t, none⟩ (u32 x)).drew := by
  refine ⟨(Below.heap_setCell wr _ _ _ (by simp)).trans hz, ?_, (hb.setCell (by simp) _).drew⟩
  rw [← wArr_set bs t hlt x hx]
  exact heap_setCell_same wr _ _ _ _ _ hw
theorem row_setCells (g : Nat) (t : TypeId) : ∀ (vs pre old post : List Value) (w : World), old.length = vs.length → w.heap[g]? = some (.cells (pre ++ old ++ post).toArray t (0, 0)) →
    (w.setCells g pre.length vs).heap[g]? = some (.cells (pre ++ vs ++ post).toArray t (0, 0))
  | [], pre, old, post, w, h, hw => by
    rw [List.length_eq_zero_iff.1 h] at hw; exact hw
  | v :: vs, pre, old, post, w, h, hw => by
    cases old with
    | nil => simp at h
    | cons u old =>
      have hs := heap_setCell_same w g pre.length _ t v hw
      have ih := row_setCells g t vs (pre ++ [v]) old post (w.setCell ⟨g, pre.length, none⟩ v) (by simpa using h) (by rw [hs]; simp [List.set_append])
      have ih2 : (w.setCells g pre.length (v :: vs)).heap[g]? = some (.cells (pre ++ [v] ++ vs ++ post).toArray t (0, 0)) := by
        rw [List.length_append] at ih; exact ih
      simpa using ih2
theorem row_whole {g : Nat} {t : TypeId} {cs : Array Value} {w : World} (hw : w.heap[g]? = some (.cells cs t (0, 0))) (vs : Array Value) (h : cs.size = vs.size) :
    (w.setCells g 0 vs.toList).heap[g]? = some (.cells vs t (0, 0)) := by
  have := row_setCells g t vs.toList [] cs.toList [] w (by simpa using h) (by simpa using hw)
  simpa using this
theorem rangeAt_whole {g : Nat} {t : TypeId} {cs : Array Value} {w : World} (hw : w.heap[g]? = some (.cells cs t (0, 0))) : w.rangeAt g 0 cs.toList := by
  intro j v hv
  rw [cell_of_row w _ _ _ _ _ hw, Nat.zero_add]; simpa using hv
theorem there_whole {g : Nat} {t : TypeId} {cs : Array Value} {w : World} (hw : w.heap[g]? = some (.cells cs t (0, 0))) (n : Nat) (h : n = cs.size) : w.there g 0 n := by
  intro j hj
  refine ⟨?_, by simp [World.frozen?, hw]⟩
  rw [cell_of_row w _ _ _ _ _ hw, Nat.zero_add, Array.getElem?_eq_getElem (by omega)]; rfl
theorem u32_cells (ns : List Nat) : ((ns.map u32).toArray).all (·.oneCell') = true := by
  simp [Array.all_eq_true]; intro i h; rfl
/-- At the head of the loop. -/
def SchedRel (bs : List UInt8) (w : World) (i : Value) (wr : World) : Prop :=
  ∃ t : Nat, t ≤ 64 ∧ i = .int .i64 t ∧ wr.heap[w.heap.size]? = some (.cells (wArr bs 0) 107 (0, 0)) ∧ wr.heap[w.heap.size + 1]? = some (.cells (wArr bs t) 107 (0, 0)) ∧ Below w.heap.size w wr

set_option maxRecDepth 100000 in
set_option maxHeartbeats 2000000 in
theorem schedule_any (A : Option Addr) (n c : Nat) (bs : List UInt8) (w : World) (hr : Rd w 1 A n c (bvs bs)) (hn : 64 ≤ n) :
    Calls Try.prog 54 #[.slice A n c] w fun e w' => e = .returned (.agg (wArr bs 64)) ∧ Below w.heap.size w w' := by
  obtain ⟨b, o, rfl, hx⟩ := hr.at_ (by omega)
  have hl : bs.length = n := by have := hr.len; rw [bvs_length] at this; omega
  have hcap := hr.cap
  have hmax := hr.max
  unfold maxLen at hmax
  have HX := Lib.hid hx
  have HL := Lib.hid hl
  clear hx hr hl
  go_enter Try.func54, Try.ntmps54
  go_wp2_with fail
  go_loopw [4, 5, 6, 7] (fun _ _ _ i wr => SchedRel bs w i wr) (fun _ _ _ i _ => 64 - (intOf i).toNat)
  case atStart => exact ⟨0, by omega, rfl, heap_alloc2_old w _ _, heap_alloc2_new w _ _, ((Below.refl _ _).alloc (Nat.le_refl _) _).alloc (by simp) _⟩
  case round =>
    obtain ⟨t, ht, rfl, hz, hw, hb⟩ := hrel
    have HZ := Lib.hid hz
    have HW := Lib.hid hw
    clear hz hw
    by_cases hlt : t < 64
    · obtain ⟨old, hold⟩ : ∃ old, (wArr bs t)[t]? = some old := ⟨(wArr bs t)[t]'(by rw [wArr_size bs t ht]; exact hlt), Array.getElem?_eq_getElem (by rw [wArr_size bs t ht]; exact hlt)⟩
      by_cases h16 : t < 16
      · have hbl : 4 * t + 3 < bs.length := by have := HL.out; omega
        obtain ⟨q0, hq0⟩ : ∃ q, q = 4 * t := ⟨_, rfl⟩
        obtain ⟨q1, hq1⟩ : ∃ q, q = 4 * t + 1 := ⟨_, rfl⟩
        obtain ⟨q2, hq2⟩ : ∃ q, q = 4 * t + 2 := ⟨_, rfl⟩
        obtain ⟨q3, hq3⟩ : ∃ q, q = 4 * t + 3 := ⟨_, rfl⟩
        have c0 := (byte_at (fun j u hu => cell_below' hb (HX.out j u hu)) q0 (by omega))
        have c1 := (byte_at (fun j u hu => cell_below' hb (HX.out j u hu)) q1 (by omega))
        have c2 := (byte_at (fun j u hu => cell_below' hb (HX.out j u hu)) q2 (by omega))
        have c3 := (byte_at (fun j u hu => cell_below' hb (HX.out j u hu)) q3 (by omega))
        have b0 := (bs.getD q0 0).toNat_lt
        have b1 := (bs.getD q1 0).toNat_lt
        have b2 := (bs.getD q2 0).toNat_lt
        have b3 := (bs.getD q3 0).toNat_lt
        have HWD : Hid (wordAt bs t = (bs.getD q0 0).toNat * 16777216 + (bs.getD q1 0).toNat * 65536 + (bs.getD q2 0).toNat * 256 + (bs.getD q3 0).toNat) := Lib.hid (by subst hq0 hq1 hq2 hq3; rfl)
        generalize (bs.getD q0 0).toNat = x0 at *
        generalize (bs.getD q1 0).toNat = x1 at *
        generalize (bs.getD q2 0).toNat = x2 at *
        generalize (bs.getD q3 0).toNat = x3 at *
        have v0 : IntKind.i64.wrap (4 * (t : Int)) = (q0 : Int) := by have := HL.out; rw [IntKind.wrap_i64]; omega
        have v1 : IntKind.i64.wrap ((q0 : Int) + 1) = (q1 : Int) := by have := HL.out; rw [IntKind.wrap_i64]; omega
        have v2 : IntKind.i64.wrap ((q0 : Int) + 2) = (q2 : Int) := by have := HL.out; rw [IntKind.wrap_i64]; omega
        have v3 : IntKind.i64.wrap ((q0 : Int) + 3) = (q3 : Int) := by have := HL.out; rw [IntKind.wrap_i64]; omega
        have l0 : (q0 : Int) < n := by have := HL.out; omega
        have l1 : (q1 : Int) < n := by have := HL.out; omega
        have l2 : (q2 : Int) < n := by have := HL.out; omega
        have l3 : (q3 : Int) < n := by have := HL.out; omega
        have p0 : (0 : Int) ≤ q0 := by omega
        have p1 : (0 : Int) ≤ q1 := by omega
        have p2 : (0 : Int) ≤ q2 := by omega
        have p3 : (0 : Int) ≤ q3 := by omega
        clear hq0 hq1 hq2 hq3
        have hq : b < w.heap.size := World.block_lt_of_cell? w _ (HX.out 0 _ (bvs_get bs 0 (by omega)))
        have hcw0 : wr.cell? ⟨w.heap.size + 1, t, none⟩ = some old := by simp [World.cell?, HW.out, hold]
        have hcw : wr.drew.cell? ⟨w.heap.size + 1, t, none⟩ = some old := hcw0
        clear hcw0
        have hfw0 : wr.frozen? ⟨w.heap.size + 1, t, none⟩ = false := by simp [World.frozen?, HW.out]
        have hfw : wr.drew.frozen? ⟨w.heap.size + 1, t, none⟩ = false := hfw0
        clear hfw0
        have t0 : (0 : Int) ≤ (t : Int) := by omega
        have t1 : (t : Int) < 16 := by omega
        go_wp2_with fail
        refine wp_region_held_drew (S := fun w' => w'.cell? ⟨b, o + q0, none⟩ = some (.int .u8 (x0 : Nat)) ∧ w'.cell? ⟨b, o + q1, none⟩ = some (.int .u8 (x1 : Nat)) ∧ w'.cell? ⟨b, o + q2, none⟩ = some (.int .u8 (x2 : Nat)) ∧ w'.cell? ⟨b, o + q3, none⟩ = some (.int .u8 (x3 : Nat))) (by kernel_rfl) ⟨c0, c1, c2, c3⟩ (fun hHeld => ?_)
        refine held_yes (i := 0) (v := ?_) rfl (by kernel_rfl) (by kernel_rfl) (by kernel_rfl) (fun _ _ _ h => h) (by rfl) (fun w hSw => ?_) hHeld ?_
        rotate_left
        · (try dsimp only at hSw); go_simp; try with_reducible rfl
        simp only [List.setIfInBounds_toArray, List.set_cons_zero, List.set_cons_succ]
        refine held_yes (i := 1) (v := ?_) rfl (by kernel_rfl) (by kernel_rfl) (by kernel_rfl) (fun _ _ _ h => h) (by rfl) (fun w hSw => ?_) hHeld ?_
        rotate_left
        · (try dsimp only at hSw); go_simp; try with_reducible rfl
        simp only [List.setIfInBounds_toArray, List.set_cons_zero, List.set_cons_succ]
        refine held_yes (i := 2) (v := ?_) rfl (by kernel_rfl) (by kernel_rfl) (by kernel_rfl) (fun _ _ _ h => h) (by rfl) (fun w hSw => ?_) hHeld ?_
        rotate_left
        · (try dsimp only at hSw); go_simp; try with_reducible rfl
        simp only [List.setIfInBounds_toArray, List.set_cons_zero, List.set_cons_succ]
        refine held_yes (i := 3) (v := ?_) rfl (by kernel_rfl) (by kernel_rfl) (by kernel_rfl) (fun _ _ _ h => h) (by rfl) (fun w hSw => ?_) hHeld ?_
        rotate_left
        · (try dsimp only at hSw); go_simp; try with_reducible rfl
        simp only [List.setIfInBounds_toArray, List.set_cons_zero, List.set_cons_succ]
        refine held_yes (i := 4) (v := ?_) rfl (by kernel_rfl) (by kernel_rfl) (by kernel_rfl) (fun _ _ _ h => h) (by rfl) (fun w hSw => ?_) hHeld ?_
        rotate_left
        · (try dsimp only at hSw); go_simp; try with_reducible rfl
        simp only [List.setIfInBounds_toArray, List.set_cons_zero, List.set_cons_succ]
        refine held_yes (i := 5) (v := ?_) rfl (by kernel_rfl) (by kernel_rfl) (by kernel_rfl) (fun _ _ _ h => h) (by rfl) (fun w hSw => ?_) hHeld ?_
        rotate_left
        · (try dsimp only at hSw); go_simp; try with_reducible rfl
        simp only [List.setIfInBounds_toArray, List.set_cons_zero, List.set_cons_succ]
        refine held_yes (i := 6) (v := ?_) rfl (by kernel_rfl) (by kernel_rfl) (by kernel_rfl) (fun _ _ _ h => h) (by rfl) (fun w hSw => ?_) hHeld ?_
        rotate_left
        · (try dsimp only at hSw); go_simp; try with_reducible rfl
        simp only [List.setIfInBounds_toArray, List.set_cons_zero, List.set_cons_succ]
        refine held_yes (i := 7) (v := ?_) rfl (by kernel_rfl) (by kernel_rfl) (by kernel_rfl) (fun _ _ _ h => h) (by rfl) (fun w hSw => ?_) hHeld ?_
        rotate_left
        · (try dsimp only at hSw); go_simp; try with_reducible rfl
        simp only [List.setIfInBounds_toArray, List.set_cons_zero, List.set_cons_succ]
        refine held_yes (i := 8) (v := ?_) rfl (by kernel_rfl) (by kernel_rfl) (by kernel_rfl) (fun _ _ _ h => h) (by rfl) (fun w hSw => ?_) hHeld ?_
        rotate_left
        · (try dsimp only at hSw); go_simp; try with_reducible rfl
        simp only [List.setIfInBounds_toArray, List.set_cons_zero, List.set_cons_succ]
        refine held_yes (i := 9) (v := ?_) rfl (by kernel_rfl) (by kernel_rfl) (by kernel_rfl) (fun _ _ _ h => h) (by rfl) (fun w hSw => ?_) hHeld ?_
        rotate_left
        · (try dsimp only at hSw); go_simp; try with_reducible rfl
        simp only [List.setIfInBounds_toArray, List.set_cons_zero, List.set_cons_succ]
        refine held_yes (i := 10) (v := ?_) rfl (by kernel_rfl) (by kernel_rfl) (by kernel_rfl) (fun _ _ _ h => h) (by rfl) (fun w hSw => ?_) hHeld ?_
        rotate_left
        · (try dsimp only at hSw); go_simp; try with_reducible rfl
        simp only [List.setIfInBounds_toArray, List.set_cons_zero, List.set_cons_succ]
        refine held_yes (i := 11) (v := ?_) rfl (by kernel_rfl) (by kernel_rfl) (by kernel_rfl) (fun _ _ _ h => h) (by rfl) (fun w hSw => ?_) hHeld ?_
        rotate_left
        · (try dsimp only at hSw); go_simp; try with_reducible rfl
        simp only [List.setIfInBounds_toArray, List.set_cons_zero, List.set_cons_succ]
        refine held_yes (i := 12) (v := ?_) rfl (by kernel_rfl) (by kernel_rfl) (by kernel_rfl) (fun _ _ _ h => h) (by rfl) (fun w hSw => ?_) hHeld ?_
        rotate_left
        · (try dsimp only at hSw); go_simp; try with_reducible rfl
        simp only [List.setIfInBounds_toArray, List.set_cons_zero, List.set_cons_succ]
        refine held_yes (i := 13) (v := ?_) rfl (by kernel_rfl) (by kernel_rfl) (by kernel_rfl) (fun _ _ _ h => h) (by rfl) (fun w hSw => ?_) hHeld ?_
        rotate_left
        · (try dsimp only at hSw); go_simp; try with_reducible rfl
        simp only [List.setIfInBounds_toArray, List.set_cons_zero, List.set_cons_succ]
        refine held_yes (i := 14) (v := ?_) rfl (by kernel_rfl) (by kernel_rfl) (by kernel_rfl) (fun _ _ _ h => h) (by rfl) (fun w hSw => ?_) hHeld ?_
        rotate_left
        · (try dsimp only at hSw); go_simp; try with_reducible rfl
        simp only [List.setIfInBounds_toArray, List.set_cons_zero, List.set_cons_succ]
        refine held_yes (i := 15) (v := ?_) rfl (by kernel_rfl) (by kernel_rfl) (by kernel_rfl) (fun _ _ _ h => h) (by rfl) (fun w hSw => ?_) hHeld ?_
        rotate_left
        · (try dsimp only at hSw); go_simp; try with_reducible rfl
        simp only [List.setIfInBounds_toArray, List.set_cons_zero, List.set_cons_succ]
        refine held_yes (i := 16) (v := ?_) rfl (by kernel_rfl) (by kernel_rfl) (by kernel_rfl) (fun _ _ _ h => h) (by rfl) (fun w hSw => ?_) hHeld ?_
        rotate_left
        · (try dsimp only at hSw); go_simp; try with_reducible rfl
        simp only [List.setIfInBounds_toArray, List.set_cons_zero, List.set_cons_succ]
        refine held_yes (i := 17) (v := ?_) rfl (by kernel_rfl) (by kernel_rfl) (by kernel_rfl) (fun _ _ _ h => h) (by rfl) (fun w hSw => ?_) hHeld ?_
        rotate_left
        · (try dsimp only at hSw); go_simp; try with_reducible rfl
        simp only [List.setIfInBounds_toArray, List.set_cons_zero, List.set_cons_succ]
        refine held_yes (i := 18) (v := ?_) rfl (by kernel_rfl) (by kernel_rfl) (by kernel_rfl) (fun _ _ _ h => h) (by rfl) (fun w hSw => ?_) hHeld ?_
        rotate_left
        · (try dsimp only at hSw); go_simp; try with_reducible rfl
        simp only [List.setIfInBounds_toArray, List.set_cons_zero, List.set_cons_succ]
        refine held_yes (i := 19) (v := ?_) rfl (by kernel_rfl) (by kernel_rfl) (by kernel_rfl) (fun _ _ _ h => h) (by rfl) (fun w hSw => ?_) hHeld ?_
        rotate_left
        · (try dsimp only at hSw); go_simp; try with_reducible rfl
        simp only [List.setIfInBounds_toArray, List.set_cons_zero, List.set_cons_succ]
        refine held_yes (i := 20) (v := ?_) rfl (by kernel_rfl) (by kernel_rfl) (by kernel_rfl) (fun _ _ _ h => h) (by rfl) (fun w hSw => ?_) hHeld ?_
        rotate_left
        · (try dsimp only at hSw); go_simp; try with_reducible rfl
        simp only [List.setIfInBounds_toArray, List.set_cons_zero, List.set_cons_succ]
        refine held_yes (i := 21) (v := ?_) rfl (by kernel_rfl) (by kernel_rfl) (by kernel_rfl) (fun _ _ _ h => h) (by rfl) (fun w hSw => ?_) hHeld ?_
        rotate_left
        · (try dsimp only at hSw); go_simp; try with_reducible rfl
        simp only [List.setIfInBounds_toArray, List.set_cons_zero, List.set_cons_succ]
        refine held_yes (i := 22) (v := ?_) rfl (by kernel_rfl) (by kernel_rfl) (by kernel_rfl) (fun _ _ _ h => h) (by rfl) (fun w hSw => ?_) hHeld ?_
        rotate_left
        · (try dsimp only at hSw); go_simp; try with_reducible rfl
        simp only [List.setIfInBounds_toArray, List.set_cons_zero, List.set_cons_succ]
        refine held_yes (i := 23) (v := ?_) rfl (by kernel_rfl) (by kernel_rfl) (by kernel_rfl) (fun _ _ _ h => h) (by rfl) (fun w hSw => ?_) hHeld ?_
        rotate_left
        · (try dsimp only at hSw); go_simp; try with_reducible rfl
        simp only [List.setIfInBounds_toArray, List.set_cons_zero, List.set_cons_succ]
        refine held_yes (i := 24) (v := ?_) rfl (by kernel_rfl) (by kernel_rfl) (by kernel_rfl) (fun _ _ _ h => h) (by rfl) (fun w hSw => ?_) hHeld ?_
        rotate_left
        · (try dsimp only at hSw); go_simp; try with_reducible rfl
        simp only [List.setIfInBounds_toArray, List.set_cons_zero, List.set_cons_succ]
        refine held_yes (i := 25) (v := ?_) rfl (by kernel_rfl) (by kernel_rfl) (by kernel_rfl) (fun _ _ _ h => h) (by rfl) (fun w hSw => ?_) hHeld ?_
        rotate_left
        · (try dsimp only at hSw); go_simp; try with_reducible rfl
        simp only [List.setIfInBounds_toArray, List.set_cons_zero, List.set_cons_succ]
        refine held_yes (i := 26) (v := ?_) rfl (by kernel_rfl) (by kernel_rfl) (by kernel_rfl) (fun _ _ _ h => h) (by rfl) (fun w hSw => ?_) hHeld ?_
        rotate_left
        · (try dsimp only at hSw); go_simp; try with_reducible rfl
        simp only [List.setIfInBounds_toArray, List.set_cons_zero, List.set_cons_succ]
        refine held_yes (i := 27) (v := ?_) rfl (by kernel_rfl) (by kernel_rfl) (by kernel_rfl) (fun _ _ _ h => h) (by rfl) (fun w hSw => ?_) hHeld ?_
        rotate_left
        · (try dsimp only at hSw); go_simp; try with_reducible rfl
        simp only [List.setIfInBounds_toArray, List.set_cons_zero, List.set_cons_succ]
        refine held_yes (i := 28) (v := ?_) rfl (by kernel_rfl) (by kernel_rfl) (by kernel_rfl) (fun _ _ _ h => h) (by rfl) (fun w hSw => ?_) hHeld ?_
        rotate_left
        · (try dsimp only at hSw); go_simp; try with_reducible rfl
        simp only [List.setIfInBounds_toArray, List.set_cons_zero, List.set_cons_succ]
        refine held_yes (i := 29) (v := ?_) rfl (by kernel_rfl) (by kernel_rfl) (by kernel_rfl) (fun _ _ _ h => h) (by rfl) (fun w hSw => ?_) hHeld ?_
        rotate_left
        · (try dsimp only at hSw); go_simp; try with_reducible rfl
        simp only [List.setIfInBounds_toArray, List.set_cons_zero, List.set_cons_succ]
        refine held_yes (i := 30) (v := ?_) rfl (by kernel_rfl) (by kernel_rfl) (by kernel_rfl) (fun _ _ _ h => h) (by rfl) (fun w hSw => ?_) hHeld ?_
        rotate_left
        · (try dsimp only at hSw); go_simp; try with_reducible rfl
        simp only [List.setIfInBounds_toArray, List.set_cons_zero, List.set_cons_succ]
        refine held_yes (i := 31) (v := ?_) rfl (by kernel_rfl) (by kernel_rfl) (by kernel_rfl) (fun _ _ _ h => h) (by rfl) (fun w hSw => ?_) hHeld ?_
        rotate_left
        · (try dsimp only at hSw); go_simp; try with_reducible rfl
        simp only [List.setIfInBounds_toArray, List.set_cons_zero, List.set_cons_succ]
        refine held_yes (i := 32) (v := ?_) rfl (by kernel_rfl) (by kernel_rfl) (by kernel_rfl) (fun _ _ _ h => h) (by rfl) (fun w hSw => ?_) hHeld ?_
        rotate_left
        · (try dsimp only at hSw); go_simp; try with_reducible rfl
        simp only [List.setIfInBounds_toArray, List.set_cons_zero, List.set_cons_succ]
        refine held_yes (i := 33) (v := ?_) rfl (by kernel_rfl) (by kernel_rfl) (by kernel_rfl) (fun _ _ _ h => h) (by rfl) (fun w hSw => ?_) hHeld ?_
        rotate_left
        · (try dsimp only at hSw); go_simp; try with_reducible rfl
        simp only [List.setIfInBounds_toArray, List.set_cons_zero, List.set_cons_succ]
        refine held_yes (i := 34) (v := ?_) rfl (by kernel_rfl) (by kernel_rfl) (by kernel_rfl) (fun _ _ _ h => h) (by rfl) (fun w hSw => ?_) hHeld ?_
        rotate_left
        · (try dsimp only at hSw); go_simp; try with_reducible rfl
        simp only [List.setIfInBounds_toArray, List.set_cons_zero, List.set_cons_succ]
        refine held_only (i := 35) (by kernel_rfl) rfl (fun K hK => ?_)
        -- 35: Op.store
        go_simp
        rw [word_value x0 x1 x2 x3 b0 b1 b2 b3, ← HWD.out]
        have HB1 : Below w.heap.size wr (wr.setCell ⟨w.heap.size + 1, t, none⟩ (.int .u32 ((wordAt bs t : Nat) : Int))) := (Below.refl _ _).setCell (by simp) _
        refine hK.out _ _ ?_ (fun hHeld => ?_)
        · exact keep4 HB1.drew hq ⟨c0, c1, c2, c3⟩
        clear hK K
        try simp only [Act.put, List.setIfInBounds_toArray, List.set_cons_zero, List.set_cons_succ]
        refine wpAnyH_done (by kernel_rfl) ?_ _
        go_wp2_with fail
        case roundEnd =>
          obtain ⟨e1, e2, e3⟩ := row_step (w := w) (wr := wr) hlt (wordAt bs t) (if_pos h16) HZ.out HW.out hb
          refine ⟨⟨t + 1, by omega, rfl, e1, e2, e3⟩, ?_⟩
          simp [intOf]; omega
      · obtain ⟨r15, e15⟩ : ∃ r, r = t - 15 := ⟨_, rfl⟩
        obtain ⟨r2, e2⟩ : ∃ r, r = t - 2 := ⟨_, rfl⟩
        obtain ⟨r7, e7⟩ : ∃ r, r = t - 7 := ⟨_, rfl⟩
        obtain ⟨r16, e16⟩ : ∃ r, r = t - 16 := ⟨_, rfl⟩
        have hrow : ∀ j, j < t → wr.cell? ⟨w.heap.size + 1, j, none⟩ = some (.int .u32 (((sched bs t).getD j 0 : Nat) : Int)) := fun j hj => by
          rw [cell_of_row wr _ _ _ _ _ HW.out]; exact wArr_get bs t j hj
        have c15 := hrow r15 (by omega)
        have c2 := hrow r2 (by omega)
        have c7 := hrow r7 (by omega)
        have c16 := hrow r16 (by omega)
        have b15 := sched_getD_lt bs t r15
        have b2 := sched_getD_lt bs t r2
        have b7 := sched_getD_lt bs t r7
        have b16 := sched_getD_lt bs t r16
        have HSD : Hid (schedStep (sched bs t) t = (sg1 ((sched bs t).getD r2 0) + (sched bs t).getD r7 0 + sg0 ((sched bs t).getD r15 0) + (sched bs t).getD r16 0) % 4294967296) := Lib.hid (by subst e15 e2 e7 e16; rfl)
        clear hrow
        generalize (sched bs t).getD r15 0 = x15 at *
        generalize (sched bs t).getD r2 0 = x2 at *
        generalize (sched bs t).getD r7 0 = x7 at *
        generalize (sched bs t).getD r16 0 = x16 at *
        have v15 : IntKind.i64.wrap ((t : Int) - 15) = (r15 : Int) := by rw [IntKind.wrap_i64]; omega
        have v2 : IntKind.i64.wrap ((t : Int) - 2) = (r2 : Int) := by rw [IntKind.wrap_i64]; omega
        have v7 : IntKind.i64.wrap ((t : Int) - 7) = (r7 : Int) := by rw [IntKind.wrap_i64]; omega
        have v16 : IntKind.i64.wrap ((t : Int) - 16) = (r16 : Int) := by rw [IntKind.wrap_i64]; omega
        have l15 : (r15 : Int) < 64 := by omega
        have l2 : (r2 : Int) < 64 := by omega
        have l7 : (r7 : Int) < 64 := by omega
        have l16 : (r16 : Int) < 64 := by omega
        have p15 : (0 : Int) ≤ r15 := by omega
        have p2 : (0 : Int) ≤ r2 := by omega
        have p7 : (0 : Int) ≤ r7 := by omega
        have p16 : (0 : Int) ≤ r16 := by omega
        have n7 : r7 ≠ t := by omega
        have n16 : r16 ≠ t := by omega
        clear e15 e2 e7 e16
        have hcw0 : wr.cell? ⟨w.heap.size + 1, t, none⟩ = some old := by simp [World.cell?, HW.out, hold]
        have hcw : wr.drew.drew.cell? ⟨w.heap.size + 1, t, none⟩ = some old := hcw0
        clear hcw0
        have hfw0 : wr.frozen? ⟨w.heap.size + 1, t, none⟩ = false := by simp [World.frozen?, HW.out]
        have hfw : wr.drew.drew.frozen? ⟨w.heap.size + 1, t, none⟩ = false := hfw0
        clear hfw0
        have t1 : ¬ (t : Int) < 16 := by omega
        go_wp2_with fail
        refine wp_region_held_drew (S := fun w' => w'.cell? ⟨w.heap.size + 1, r15, none⟩ = some (.int .u32 (x15 : Nat)) ∧ w'.cell? ⟨w.heap.size + 1, r2, none⟩ = some (.int .u32 (x2 : Nat))) (by kernel_rfl) ⟨c15, c2⟩ (fun hHeld => ?_)
        refine held_yes (i := 0) (v := ?_) rfl (by kernel_rfl) (by kernel_rfl) (by kernel_rfl) (fun _ _ _ h => h) (by rfl) (fun w hSw => ?_) hHeld ?_
        rotate_left
        · (try dsimp only at hSw); go_simp; try with_reducible rfl
        simp only [List.setIfInBounds_toArray, List.set_cons_zero, List.set_cons_succ]
        refine held_yes (i := 1) (v := ?_) rfl (by kernel_rfl) (by kernel_rfl) (by kernel_rfl) (fun _ _ _ h => h) (by rfl) (fun w hSw => ?_) hHeld ?_
        rotate_left
        · (try dsimp only at hSw); go_simp; try with_reducible rfl
        simp only [List.setIfInBounds_toArray, List.set_cons_zero, List.set_cons_succ]
        refine held_yes (i := 2) (v := ?_) rfl (by kernel_rfl) (by kernel_rfl) (by kernel_rfl) (fun _ _ _ h => h) (by rfl) (fun w hSw => ?_) hHeld ?_
        rotate_left
        · (try dsimp only at hSw); go_simp; try with_reducible rfl
        simp only [List.setIfInBounds_toArray, List.set_cons_zero, List.set_cons_succ]
        refine held_yes (i := 3) (v := ?_) rfl (by kernel_rfl) (by kernel_rfl) (by kernel_rfl) (fun _ _ _ h => h) (by rfl) (fun w hSw => ?_) hHeld ?_
        rotate_left
        · (try dsimp only at hSw); go_simp; try with_reducible rfl
        simp only [List.setIfInBounds_toArray, List.set_cons_zero, List.set_cons_succ]
        refine held_yes (i := 4) (v := ?_) rfl (by kernel_rfl) (by kernel_rfl) (by kernel_rfl) (fun _ _ _ h => h) (by rfl) (fun w hSw => ?_) hHeld ?_
        rotate_left
        · (try dsimp only at hSw); go_simp; try with_reducible rfl
        simp only [List.setIfInBounds_toArray, List.set_cons_zero, List.set_cons_succ]
        refine held_yes (i := 5) (v := ?_) rfl (by kernel_rfl) (by kernel_rfl) (by kernel_rfl) (fun _ _ _ h => h) (by rfl) (fun w hSw => ?_) hHeld ?_
        rotate_left
        · (try dsimp only at hSw); go_simp; try with_reducible rfl
        simp only [List.setIfInBounds_toArray, List.set_cons_zero, List.set_cons_succ]
        refine held_yes (i := 6) (v := ?_) rfl (by kernel_rfl) (by kernel_rfl) (by kernel_rfl) (fun _ _ _ h => h) (by rfl) (fun w hSw => ?_) hHeld ?_
        rotate_left
        · (try dsimp only at hSw); go_simp; try with_reducible rfl
        simp only [List.setIfInBounds_toArray, List.set_cons_zero, List.set_cons_succ]
        refine held_yes (i := 7) (v := ?_) rfl (by kernel_rfl) (by kernel_rfl) (by kernel_rfl) (fun _ _ _ h => h) (by rfl) (fun w hSw => ?_) hHeld ?_
        rotate_left
        · (try dsimp only at hSw); go_simp; try with_reducible rfl
        simp only [List.setIfInBounds_toArray, List.set_cons_zero, List.set_cons_succ]
        refine held_yes (i := 8) (v := ?_) rfl (by kernel_rfl) (by kernel_rfl) (by kernel_rfl) (fun _ _ _ h => h) (by rfl) (fun w hSw => ?_) hHeld ?_
        rotate_left
        · (try dsimp only at hSw); go_simp; try with_reducible rfl
        simp only [List.setIfInBounds_toArray, List.set_cons_zero, List.set_cons_succ]
        refine held_yes (i := 9) (v := ?_) rfl (by kernel_rfl) (by kernel_rfl) (by kernel_rfl) (fun _ _ _ h => h) (by rfl) (fun w hSw => ?_) hHeld ?_
        rotate_left
        · (try dsimp only at hSw); go_simp; try with_reducible rfl
        simp only [List.setIfInBounds_toArray, List.set_cons_zero, List.set_cons_succ]
        refine wpAnyH_done (by kernel_rfl) ?_ _
        go_wp2_with fail
        refine wp_region_held_drew (S := fun w' => w'.cell? ⟨w.heap.size + 1, r7, none⟩ = some (.int .u32 (x7 : Nat)) ∧ w'.cell? ⟨w.heap.size + 1, r16, none⟩ = some (.int .u32 (x16 : Nat))) (by kernel_rfl) ⟨c7, c16⟩ (fun hHeld => ?_)
        refine held_yes (i := 0) (v := ?_) rfl (by kernel_rfl) (by kernel_rfl) (by kernel_rfl) (fun _ _ _ h => h) (by rfl) (fun w hSw => ?_) hHeld ?_
        rotate_left
        · (try dsimp only at hSw); go_simp; try with_reducible rfl
        simp only [List.setIfInBounds_toArray, List.set_cons_zero, List.set_cons_succ]
        refine held_yes (i := 1) (v := ?_) rfl (by kernel_rfl) (by kernel_rfl) (by kernel_rfl) (fun _ _ _ h => h) (by rfl) (fun w hSw => ?_) hHeld ?_
        rotate_left
        · (try dsimp only at hSw); go_simp; try with_reducible rfl
        simp only [List.setIfInBounds_toArray, List.set_cons_zero, List.set_cons_succ]
        refine held_yes (i := 3) (v := ?_) rfl (by kernel_rfl) (by kernel_rfl) (by kernel_rfl) (fun _ _ _ h => h) (by rfl) (fun w hSw => ?_) hHeld ?_
        rotate_left
        · (try dsimp only at hSw); go_simp; try with_reducible rfl
        simp only [List.setIfInBounds_toArray, List.set_cons_zero, List.set_cons_succ]
        refine held_yes (i := 6) (v := ?_) rfl (by kernel_rfl) (by kernel_rfl) (by kernel_rfl) (fun _ _ _ h => h) (by rfl) (fun w hSw => ?_) hHeld ?_
        rotate_left
        · (try dsimp only at hSw); go_simp; try with_reducible rfl
        simp only [List.setIfInBounds_toArray, List.set_cons_zero, List.set_cons_succ]
        refine held_yes (i := 7) (v := ?_) rfl (by kernel_rfl) (by kernel_rfl) (by kernel_rfl) (fun _ _ _ h => h) (by rfl) (fun w hSw => ?_) hHeld ?_
        rotate_left
        · (try dsimp only at hSw); go_simp; try with_reducible rfl
        simp only [List.setIfInBounds_toArray, List.set_cons_zero, List.set_cons_succ]
        refine held_yes (i := 9) (v := ?_) rfl (by kernel_rfl) (by kernel_rfl) (by kernel_rfl) (fun _ _ _ h => h) (by rfl) (fun w hSw => ?_) hHeld ?_
        rotate_left
        · (try dsimp only at hSw); go_simp; try with_reducible rfl
        simp only [List.setIfInBounds_toArray, List.set_cons_zero, List.set_cons_succ]
        refine held_yes (i := 10) (v := ?_) rfl (by kernel_rfl) (by kernel_rfl) (by kernel_rfl) (fun _ _ _ h => h) (by rfl) (fun w hSw => ?_) hHeld ?_
        rotate_left
        · (try dsimp only at hSw); go_simp; try with_reducible rfl
        simp only [List.setIfInBounds_toArray, List.set_cons_zero, List.set_cons_succ]
        refine held_yes (i := 11) (v := ?_) rfl (by kernel_rfl) (by kernel_rfl) (by kernel_rfl) (fun _ _ _ h => h) (by rfl) (fun w hSw => ?_) hHeld ?_
        rotate_left
        · (try dsimp only at hSw); go_simp; try with_reducible rfl
        simp only [List.setIfInBounds_toArray, List.set_cons_zero, List.set_cons_succ]
        refine held_yes (i := 12) (v := ?_) rfl (by kernel_rfl) (by kernel_rfl) (by kernel_rfl) (fun _ _ _ h => h) (by rfl) (fun w hSw => ?_) hHeld ?_
        rotate_left
        · (try dsimp only at hSw); go_simp; try with_reducible rfl
        simp only [List.setIfInBounds_toArray, List.set_cons_zero, List.set_cons_succ]
        refine held_yes (i := 14) (v := ?_) rfl (by kernel_rfl) (by kernel_rfl) (by kernel_rfl) (fun _ _ _ h => h) (by rfl) (fun w hSw => ?_) hHeld ?_
        rotate_left
        · (try dsimp only at hSw); go_simp; try with_reducible rfl
        simp only [List.setIfInBounds_toArray, List.set_cons_zero, List.set_cons_succ]
        refine held_yes (i := 16) (v := ?_) rfl (by kernel_rfl) (by kernel_rfl) (by kernel_rfl) (fun _ _ _ h => h) (by rfl) (fun w hSw => ?_) hHeld ?_
        rotate_left
        · (try dsimp only at hSw); go_simp; try with_reducible rfl
        simp only [List.setIfInBounds_toArray, List.set_cons_zero, List.set_cons_succ]
        refine held_yes (i := 19) (v := ?_) rfl (by kernel_rfl) (by kernel_rfl) (by kernel_rfl) (fun _ _ _ h => h) (by rfl) (fun w hSw => ?_) hHeld ?_
        rotate_left
        · (try dsimp only at hSw); go_simp; try with_reducible rfl
        simp only [List.setIfInBounds_toArray, List.set_cons_zero, List.set_cons_succ]
        refine held_yes (i := 20) (v := ?_) rfl (by kernel_rfl) (by kernel_rfl) (by kernel_rfl) (fun _ _ _ h => h) (by rfl) (fun w hSw => ?_) hHeld ?_
        rotate_left
        · (try dsimp only at hSw); go_simp; try with_reducible rfl
        simp only [List.setIfInBounds_toArray, List.set_cons_zero, List.set_cons_succ]
        refine held_yes (i := 23) (v := ?_) rfl (by kernel_rfl) (by kernel_rfl) (by kernel_rfl) (fun _ _ _ h => h) (by rfl) (fun w hSw => ?_) hHeld ?_
        rotate_left
        · (try dsimp only at hSw); go_simp; try with_reducible rfl
        simp only [List.setIfInBounds_toArray, List.set_cons_zero, List.set_cons_succ]
        refine held_yes (i := 24) (v := ?_) rfl (by kernel_rfl) (by kernel_rfl) (by kernel_rfl) (fun _ _ _ h => h) (by rfl) (fun w hSw => ?_) hHeld ?_
        rotate_left
        · (try dsimp only at hSw); go_simp; try with_reducible rfl
        simp only [List.setIfInBounds_toArray, List.set_cons_zero, List.set_cons_succ]
        refine held_yes (i := 25) (v := ?_) rfl (by kernel_rfl) (by kernel_rfl) (by kernel_rfl) (fun _ _ _ h => h) (by rfl) (fun w hSw => ?_) hHeld ?_
        rotate_left
        · (try dsimp only at hSw); go_simp; try with_reducible rfl
        simp only [List.setIfInBounds_toArray, List.set_cons_zero, List.set_cons_succ]
        refine held_yes (i := 26) (v := ?_) rfl (by kernel_rfl) (by kernel_rfl) (by kernel_rfl) (fun _ _ _ h => h) (by rfl) (fun w hSw => ?_) hHeld ?_
        rotate_left
        · (try dsimp only at hSw); go_simp; try with_reducible rfl
        simp only [List.setIfInBounds_toArray, List.set_cons_zero, List.set_cons_succ]
        refine held_only (i := 2) (by kernel_rfl) rfl (fun K hK => ?_)
        -- 2: CALL locket/sha.right
        go_simp
        refine (right_17 x2 b2 _).mono ?_
        rintro e w10 ⟨rfl, rfl⟩
        simp only [Go.Proofs.Ythpigmkdchnnoaa.u32]
        go_wp2_with fail
        refine hK.out _ _ ?_ (fun hHeld => ?_)
        · exact hHeld
        clear hK K
        try simp only [Act.put, List.setIfInBounds_toArray, List.set_cons_zero, List.set_cons_succ]
        refine held_only (i := 4) (by kernel_rfl) rfl (fun K hK => ?_)
        -- 4: CALL locket/sha.right
        go_simp
        refine (right_19 x2 b2 _).mono ?_
        rintro e w10 ⟨rfl, rfl⟩
        simp only [Go.Proofs.Ythpigmkdchnnoaa.u32]
        go_wp2_with fail
        refine hK.out _ _ ?_ (fun hHeld => ?_)
        · exact hHeld
        clear hK K
        try simp only [Act.put, List.setIfInBounds_toArray, List.set_cons_zero, List.set_cons_succ]
        refine held_yes (i := 5) (v := ?_) rfl (by kernel_rfl) (by kernel_rfl) (by kernel_rfl) (fun _ _ _ h => h) (by rfl) (fun w hSw => ?_) hHeld ?_
        rotate_left
        · (try dsimp only at hSw); go_simp; try with_reducible rfl
        simp only [List.setIfInBounds_toArray, List.set_cons_zero, List.set_cons_succ]
        refine held_yes (i := 8) (v := ?_) rfl (by kernel_rfl) (by kernel_rfl) (by kernel_rfl) (fun _ _ _ h => h) (by rfl) (fun w hSw => ?_) hHeld ?_
        rotate_left
        · (try dsimp only at hSw); go_simp; try with_reducible rfl
        simp only [List.setIfInBounds_toArray, List.set_cons_zero, List.set_cons_succ]
        refine held_yes (i := 13) (v := ?_) rfl (by kernel_rfl) (by kernel_rfl) (by kernel_rfl) (fun _ _ _ h => h) (by rfl) (fun w hSw => ?_) hHeld ?_
        rotate_left
        · (try dsimp only at hSw); go_simp; try with_reducible rfl
        simp only [List.setIfInBounds_toArray, List.set_cons_zero, List.set_cons_succ]
        refine held_only (i := 15) (by kernel_rfl) rfl (fun K hK => ?_)
        -- 15: CALL locket/sha.right
        go_simp
        refine (right_7 x15 b15 _).mono ?_
        rintro e w10 ⟨rfl, rfl⟩
        simp only [Go.Proofs.Ythpigmkdchnnoaa.u32]
        go_wp2_with fail
        refine hK.out _ _ ?_ (fun hHeld => ?_)
        · exact hHeld
        clear hK K
        try simp only [Act.put, List.setIfInBounds_toArray, List.set_cons_zero, List.set_cons_succ]
        refine held_only (i := 17) (by kernel_rfl) rfl (fun K hK => ?_)
        -- 17: CALL locket/sha.right
        go_simp
        refine (right_18 x15 b15 _).mono ?_
        rintro e w10 ⟨rfl, rfl⟩
        simp only [Go.Proofs.Ythpigmkdchnnoaa.u32]
        go_wp2_with fail
        refine hK.out _ _ ?_ (fun hHeld => ?_)
        · exact hHeld
        clear hK K
        try simp only [Act.put, List.setIfInBounds_toArray, List.set_cons_zero, List.set_cons_succ]
        refine held_yes (i := 18) (v := ?_) rfl (by kernel_rfl) (by kernel_rfl) (by kernel_rfl) (fun _ _ _ h => h) (by rfl) (fun w hSw => ?_) hHeld ?_
        rotate_left
        · (try dsimp only at hSw); go_simp; try with_reducible rfl
        simp only [List.setIfInBounds_toArray, List.set_cons_zero, List.set_cons_succ]
        refine held_yes (i := 21) (v := ?_) rfl (by kernel_rfl) (by kernel_rfl) (by kernel_rfl) (fun _ _ _ h => h) (by rfl) (fun w hSw => ?_) hHeld ?_
        rotate_left
        · (try dsimp only at hSw); go_simp; try with_reducible rfl
        simp only [List.setIfInBounds_toArray, List.set_cons_zero, List.set_cons_succ]
        refine held_yes (i := 22) (v := ?_) rfl (by kernel_rfl) (by kernel_rfl) (by kernel_rfl) (fun _ _ _ h => h) (by rfl) (fun w hSw => ?_) hHeld ?_
        rotate_left
        · (try dsimp only at hSw); go_simp; try with_reducible rfl
        simp only [List.setIfInBounds_toArray, List.set_cons_zero, List.set_cons_succ]
        refine held_yes (i := 27) (v := ?_) rfl (by kernel_rfl) (by kernel_rfl) (by kernel_rfl) (fun _ _ _ h => h) (by rfl) (fun w hSw => ?_) hHeld ?_
        rotate_left
        · (try dsimp only at hSw); go_simp; try with_reducible rfl
        simp only [List.setIfInBounds_toArray, List.set_cons_zero, List.set_cons_succ]
        refine held_yes (i := 28) (v := ?_) rfl (by kernel_rfl) (by kernel_rfl) (by kernel_rfl) (fun _ _ _ h => h) (by rfl) (fun w hSw => ?_) hHeld ?_
        rotate_left
        · (try dsimp only at hSw); go_simp; try with_reducible rfl
        simp only [List.setIfInBounds_toArray, List.set_cons_zero, List.set_cons_succ]
        refine held_only (i := 29) (by kernel_rfl) rfl (fun K hK => ?_)
        -- 29: Op.store
        go_simp
        rw [step_value x2 x7 x15 x16 b2 b15, ← HSD.out]
        refine hK.out _ _ ?_ (fun hHeld => ?_)
        · exact keep2 n7 n16 ⟨c7, c16⟩
        clear hK K
        try simp only [Act.put, List.setIfInBounds_toArray, List.set_cons_zero, List.set_cons_succ]
        refine wpAnyH_done (by kernel_rfl) ?_ _
        go_wp2_with fail
        case roundEnd =>
          obtain ⟨e1, e2, e3⟩ := row_step (w := w) (wr := wr) hlt (schedStep (sched bs t) t) (if_neg h16) HZ.out HW.out hb
          refine ⟨⟨t + 1, by omega, rfl, e1, e2, e3.drew⟩, ?_⟩
          simp [intOf]; omega
    · obtain rfl : t = 64 := by omega
      have HI : ∀ n, n = 64 → (Try.prog.info? 107).map (·.size) = some n := fun n hn => by subst hn; kernel_rfl
      have HS := Lib.hid (wArr_size bs 64 (Nat.le_refl _))
      have HS0 := Lib.hid (wArr_size bs 0 (by omega))
      have HO : Hid ((wArr bs 64).all (·.oneCell') = true) := Lib.hid (u32_cells _)
      have HH := Lib.hid (row_whole HZ.out (wArr bs 64) (by rw [HS.out, HS0.out]))
      have HBB := Lib.hid (Go.below_setCells (Nat.le_refl w.heap.size) (wArr bs 64).toList 0 wr hb)
      have HRA : ∃ ra, Hid (ra = wArr bs 64) := ⟨_, Lib.hid rfl⟩
      obtain ⟨ra, HRA⟩ := HRA
      have HW2 := Lib.hid HW.out
      rw [show wArr bs 64 = ra from HRA.out.symm] at HS HO HH HBB HW2
      generalize wArr bs 0 = rz at *
      go_wp2_with (first | (refine wpList_load_mid rfl 107 _ rfl (w.heap.size + 1) 0 rfl ra.toList _ (rangeAt_whole HW2.out) Try.underlying107 rfl (HI _ (by rw [Array.length_toList, HS.out])) ?_) | (refine wpList_store_mid rfl 107 _ _ rfl w.heap.size 0 ra rfl rfl (there_whole HZ.out _ (by rw [HS.out, HS0.out])) (HI _ HS.out) HO.out ?_))
      simp only [Act.put, List.setIfInBounds_toArray, List.set_cons_zero, List.set_cons_succ]
      have hres : ∀ tmps : Array Value, tmps.getD 2 undef = .pointer (some ⟨w.heap.size, 0, none⟩) → (results Try.f54 tmps).run Try.prog (wr.setCells w.heap.size 0 ra.toList) = .ok (.agg ra) (wr.setCells w.heap.size 0 ra.toList) := fun tmps h => results_cell_row (by kernel_rfl) tmps _ w.heap.size _ ra _ _ h HH.out Try.underlying107 rfl (HI _ HS.out)
      refine bodyPost_ret (hres _ ?hq1) ?hq2 ?hq3
      case hq1 => simp
      case hq2 => rfl
      case hq3 =>
        exact ⟨by rw [HRA.out], HBB.out⟩
end Go.Proofs.Ythpigmkdchnnoaa
