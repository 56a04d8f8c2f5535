/- Contracts of locketref01.times and below. -/
import Derived.Test.YthpigmkdchnnoaaRefA
namespace Go.Proofs.Ythpigmkdchnnoaa
open Go.RowKit
set_option linter.unusedVariables false
set_option linter.unusedSimpArgs false

def zv (x : Int) : Value := .int .i64 x
def zvs (l : List Int) : List Value := l.map zv
def mulAt (a b : List Int) (i k : Nat) (out : List Int) : List Int := out.set (i + k) (wrap64 (out.getD (i + k) 0 + wrap64 (a.getD i 0 * b.getD k 0)))
def mulRow (a b : List Int) (i : Nat) (out : List Int) : Nat → List Int
  | 0 => out
  | k + 1 => mulAt a b i k (mulRow a b i out k)
def mulRows (a b : List Int) : Nat → List Int
  | 0 => List.replicate (a.length + b.length - 1) 0
  | i + 1 => mulRow a b i (mulRows a b i) b.length
theorem mulRow_length (a b : List Int) (i : Nat) (out : List Int) : ∀ k, (mulRow a b i out k).length = out.length
  | 0 => rfl
  | k + 1 => by rw [mulRow, mulAt, List.length_set, mulRow_length a b i out k]
theorem mulRows_length (a b : List Int) : ∀ i, (mulRows a b i).length = a.length + b.length - 1
  | 0 => by simp [mulRows]
  | i + 1 => by rw [mulRows, mulRow_length, mulRows_length a b i]
def carryA (i : Nat) (out : List Int) : List Int := out.set (i - 1) (wrap64 (out.getD (i - 1) 0 + wrap64 (Int.tdiv (out.getD i 0) 65536)))
def carryB (i : Nat) (out : List Int) : List Int := out.set i (Int.tmod (out.getD i 0) 65536)
/-- The places above i are carried. -/
def carry (out : List Int) (top : Nat) : Nat → List Int
  | 0 => out
  | j + 1 => carryB (top - j) (carryA (top - j) (carry out top j))
theorem carry_length (out : List Int) (top : Nat) : ∀ j, (carry out top j).length = out.length
  | 0 => rfl
  | j + 1 => by rw [carry, carryB, carryA, List.length_set, List.length_set, carry_length out top j]
def timesL (a b : List Int) : List Int := carry (mulRows a b a.length) (a.length + b.length - 2) (a.length + b.length - 2)

/-- The product's row. -/
structure TRel (w : World) (g : Nat) (out : List Int) (wr : World) : Prop where
  row : wr.heap[g]? = some (.cells (zvs out).toArray 3 (0, 0))
  below : Below w.heap.size w wr
  base : w.heap.size ≤ g
namespace TRel
variable {w wr : World} {g : Nat} {out : List Int}
theorem get (h : TRel w g out wr) {j : Nat} (hj : j < out.length) : wr.cell? ⟨g, j, none⟩ = some (.int .i64 (out.getD j 0)) ∧ wr.frozen? ⟨g, j, none⟩ = false := by
  refine ⟨?_, by simp [World.frozen?, h.row]⟩
  rw [cell_of_row wr _ _ _ _ _ h.row]
  simp [zvs, zv, List.getD_eq_getElem?_getD, List.getElem?_eq_getElem hj]
theorem put (h : TRel w g out wr) (j : Nat) (x : Int) : TRel w g (out.set j x) (wr.setCell ⟨g, j, none⟩ (.int .i64 x)) := by
  refine ⟨?_, h.below.setCell h.base _, h.base⟩
  rw [show (zvs (out.set j x)).toArray = (zvs out).toArray.setIfInBounds j (.int .i64 x) by simp [zvs, List.map_set, zv]]
  exact heap_setCell_same wr _ _ _ _ _ h.row
theorem drew (h : TRel w g out wr) : TRel w g out wr.drew := ⟨h.row, h.below.drew, h.base⟩
end TRel
theorem rd_get {w w' : World} {b o n c : Nat} {l : List Int} (h : Rd w 1 (some ⟨b, o, none⟩) n c (zvs l)) (hb : Below w.heap.size w w') {j : Nat} (hj : j < l.length) (hn : l.length = n) : w'.cell? ⟨b, o + j, none⟩ = some (.int .i64 (l.getD j 0)) := by
  obtain ⟨b', o', hA, hx⟩ := h.at_ (by omega)
  cases hA
  have := hx j (.int .i64 l[j]) (by simp [zvs, zv, hj])
  rw [(hb.cell (World.block_lt_of_cell? w _ this)).trans this, List.getD_eq_getElem?_getD, List.getElem?_eq_getElem hj]; rfl

theorem made_ints (L : Nat) : madeCells #[Value.int .i64 0] (L * 1) = (zvs (List.replicate L 0)).toArray := by
  apply Array.ext
  · simp [madeCells, zvs]
  · intro i h1 h2
    simp [madeCells, zvs, zv, Nat.mod_one]
theorem make_ints (w : World) (L : Nat) (hL : L ≤ 1000000) : (Instr.makeSlice 73 (.int .i64 L) (.int .i64 L)).run Try.prog w = .ok (.slice (some ⟨w.heap.size, 0, none⟩) L L) (w.alloc (.cells (zvs (List.replicate L 0)).toArray 3)) := by
  obtain ⟨i, hi, hz, hs, hb⟩ := ei_int.info
  have h := run_make w 73 3 i (.int .i64 0) ei_int.ht hi hz .i64 .i64 L L (by omega) (by omega) (by rw [hb]; omega) (by omega)
  rw [hs] at h
  simp only [Int.toNat_natCast] at h
  rw [h, ← made_ints L]
  rfl

set_option maxRecDepth 100000 in
set_option maxHeartbeats 2000000 in
theorem times_any (A : Option Addr) (n c : Nat) (a : List Int) (B : Option Addr) (m d : Nat) (b : List Int) (w : World) (ha : Rd w 1 A n c (zvs a)) (hb : Rd w 1 B m d (zvs b)) (hn0 : 0 < n) (hn : n ≤ 100) (hm0 : 0 < m) (hm : m ≤ 100) :
    Calls Try.prog 50 #[.slice A n c, .slice B m d] w fun e w' => e = .returned (.slice (some ⟨w.heap.size, 0, none⟩) (n + m - 1) (n + m - 1)) ∧ TRel w w.heap.size (timesL a b) w' := by
  have hla : a.length = n := by have := ha.len; simp [zvs] at this; omega
  have hlb : b.length = m := by have := hb.len; simp [zvs] at this; omega
  obtain ⟨ba, oa, rfl, _⟩ := ha.at_ hn0
  obtain ⟨bb, ob, rfl, _⟩ := hb.at_ hm0
  have HA := Lib.hid ha
  have HB := Lib.hid hb
  clear ha hb
  obtain ⟨L, hL⟩ : ∃ L, n + m = L + 1 := ⟨n + m - 1, by omega⟩
  have hLi : (n : Int) + (m : Int) - 1 = (L : Int) := by omega
  have hLb : L ≤ 200 := by omega
  have HMK := make_ints w L (by omega)
  have HT0 : Hid (TRel w w.heap.size (mulRows a b 0) (w.alloc (.cells (zvs (List.replicate L 0)).toArray 3))) := Lib.hid ⟨by rw [heap_alloc_new, mulRows, hla, hlb, show n + m - 1 = L by omega], (Below.refl _ _).alloc (Nat.le_refl _) _, Nat.le_refl _⟩
  go_enter Try.func50, Try.ntmps50
  go_wp2_with fail
  obtain ⟨g, HG⟩ : ∃ g, Hid (g = w.heap.size) := ⟨_, Lib.hid rfl⟩
  rw [← HG.out] at HT0 ⊢
  clear HMK
  go_loopw [6] (fun s6 wr => ∃ i : Nat, i ≤ n ∧ s6 = .int .i64 i ∧ TRel w g (mulRows a b i) wr) (fun s6 _ => n - (intOf s6).toNat)
  case atStart => exact ⟨0, by omega, rfl, HT0.out⟩
  case round =>
    obtain ⟨i, hi, rfl, ht⟩ := hrel
    have HT := Lib.hid ht
    clear ht HT0
    by_cases hlt : i < n
    · have HI0 : Hid (TRel w g (mulRow a b i (mulRows a b i) 0) wr) := HT
      go_wp2_with fail
      go_loopw [7] (fun s7 wr => ∃ k : Nat, k ≤ m ∧ s7 = .int .i64 k ∧ TRel w g (mulRow a b i (mulRows a b i) k) wr) (fun s7 _ => m - (intOf s7).toNat)
      case atStart => exact ⟨0, by omega, rfl, HI0.out⟩
      case round =>
        obtain ⟨k, hk, rfl, ht⟩ := hrel
        have HT2 := Lib.hid ht
        clear ht HI0 HT
        by_cases hlt2 : k < m
        · obtain ⟨q, hq⟩ : ∃ q, q = i + k := ⟨_, rfl⟩
          have hql : q < L := by omega
          have c1 := HT2.out.drew.get (j := q) (by rw [mulRow_length, mulRows_length]; omega)
          obtain ⟨c1, f1⟩ := c1
          have c2 := rd_get HA.out HT2.out.drew.below (j := i) (by omega) hla
          have c3 := rd_get HB.out HT2.out.drew.below (j := k) (by omega) hlb
          have HP := Lib.hid (HT2.out.drew.put q (wrap64 ((mulRow a b i (mulRows a b i) k).getD q 0 + wrap64 (a.getD i 0 * b.getD k 0))))
          rw [show (mulRow a b i (mulRows a b i) k).set q (wrap64 ((mulRow a b i (mulRows a b i) k).getD q 0 + wrap64 (a.getD i 0 * b.getD k 0))) = mulRow a b i (mulRows a b i) (k + 1) by rw [hq, mulRow, mulAt]] at HP
          have vq2 : (i : Int) + (k : Int) = (q : Int) := by omega
          have vq : IntKind.i64.wrap (q : Int) = (q : Int) := by rw [IntKind.wrap_i64]; omega
          clear hq
          obtain ⟨x, HX⟩ : ∃ x, Hid (x = (mulRow a b i (mulRows a b i) k).getD q 0) := ⟨_, Lib.hid rfl⟩
          obtain ⟨y, HY⟩ : ∃ x, Hid (x = a.getD i 0) := ⟨_, Lib.hid rfl⟩
          obtain ⟨z, HZ⟩ : ∃ x, Hid (x = b.getD k 0) := ⟨_, Lib.hid rfl⟩
          rw [← HX.out] at c1 HP
          rw [← HY.out] at c2 HP
          rw [← HZ.out] at c3 HP
          have lq : (q : Int) < L := by omega
          have pq : (0 : Int) ≤ q := by omega
          go_wp2_with fail
          refine wp_region_held_drew (S := fun _ => True) (by kernel_rfl) trivial (fun hHeld => ?_)
          refine held_yes (i := 0) (v := ?_) rfl (by kernel_rfl) (by kernel_rfl) (by kernel_rfl) (fun _ _ _ h => h) (by rfl) (fun w hSw => ?_) hHeld ?_
          rotate_left
          · go_simp; try with_reducible rfl
          simp only [List.setIfInBounds_toArray, List.set_cons_zero, List.set_cons_succ]
          refine held_yes (i := 1) (v := ?_) rfl (by kernel_rfl) (by kernel_rfl) (by kernel_rfl) (fun _ _ _ h => h) (by rfl) (fun w hSw => ?_) hHeld ?_
          rotate_left
          · go_simp; try with_reducible rfl
          simp only [List.setIfInBounds_toArray, List.set_cons_zero, List.set_cons_succ]
          refine held_yes (i := 2) (v := ?_) rfl (by kernel_rfl) (by kernel_rfl) (by kernel_rfl) (fun _ _ _ h => h) (by rfl) (fun w hSw => ?_) hHeld ?_
          rotate_left
          · go_simp; try with_reducible rfl
          simp only [List.setIfInBounds_toArray, List.set_cons_zero, List.set_cons_succ]
          refine held_yes (i := 3) (v := ?_) rfl (by kernel_rfl) (by kernel_rfl) (by kernel_rfl) (fun _ _ _ h => h) (by rfl) (fun w hSw => ?_) hHeld ?_
          rotate_left
          · go_simp; try with_reducible rfl
          simp only [List.setIfInBounds_toArray, List.set_cons_zero, List.set_cons_succ]
          refine held_yes (i := 4) (v := ?_) rfl (by kernel_rfl) (by kernel_rfl) (by kernel_rfl) (fun _ _ _ h => h) (by rfl) (fun w hSw => ?_) hHeld ?_
          rotate_left
          · go_simp; try with_reducible rfl
          simp only [List.setIfInBounds_toArray, List.set_cons_zero, List.set_cons_succ]
          refine held_yes (i := 6) (v := ?_) rfl (by kernel_rfl) (by kernel_rfl) (by kernel_rfl) (fun _ _ _ h => h) (by rfl) (fun w hSw => ?_) hHeld ?_
          rotate_left
          · go_simp; try with_reducible rfl
          simp only [List.setIfInBounds_toArray, List.set_cons_zero, List.set_cons_succ]
          refine held_yes (i := 7) (v := ?_) rfl (by kernel_rfl) (by kernel_rfl) (by kernel_rfl) (fun _ _ _ h => h) (by rfl) (fun w hSw => ?_) hHeld ?_
          rotate_left
          · go_simp; try with_reducible rfl
          simp only [List.setIfInBounds_toArray, List.set_cons_zero, List.set_cons_succ]
          refine held_yes (i := 8) (v := ?_) rfl (by kernel_rfl) (by kernel_rfl) (by kernel_rfl) (fun _ _ _ h => h) (by rfl) (fun w hSw => ?_) hHeld ?_
          rotate_left
          · go_simp; try with_reducible rfl
          simp only [List.setIfInBounds_toArray, List.set_cons_zero, List.set_cons_succ]
          refine held_yes (i := 10) (v := ?_) rfl (by kernel_rfl) (by kernel_rfl) (by kernel_rfl) (fun _ _ _ h => h) (by rfl) (fun w hSw => ?_) hHeld ?_
          rotate_left
          · go_simp; try with_reducible rfl
          simp only [List.setIfInBounds_toArray, List.set_cons_zero, List.set_cons_succ]
          refine held_yes (i := 11) (v := ?_) rfl (by kernel_rfl) (by kernel_rfl) (by kernel_rfl) (fun _ _ _ h => h) (by rfl) (fun w hSw => ?_) hHeld ?_
          rotate_left
          · go_simp; try with_reducible rfl
          simp only [List.setIfInBounds_toArray, List.set_cons_zero, List.set_cons_succ]
          refine held_yes (i := 12) (v := ?_) rfl (by kernel_rfl) (by kernel_rfl) (by kernel_rfl) (fun _ _ _ h => h) (by rfl) (fun w hSw => ?_) hHeld ?_
          rotate_left
          · go_simp; try with_reducible rfl
          simp only [List.setIfInBounds_toArray, List.set_cons_zero, List.set_cons_succ]
          refine wpAnyH_ready (rs := [5, 9, 13]) (by kernel_rfl) (by simp) (AllReadyH.cons rfl (fun K hK => ?_) (AllReadyH.cons rfl (fun K hK => ?_) (AllReadyH.cons rfl (fun K hK => ?_) AllReadyH.nil)))
          · skip
            rw [if_pos (by rfl)]
            go_wp2_with fail
            refine hK.out _ _ trivial (fun hHeld => ?_)
            clear hK K
            try simp only [Act.put, List.setIfInBounds_toArray, List.set_cons_zero, List.set_cons_succ]
            refine wpAnyH_ready (rs := [9, 13]) (by kernel_rfl) (by simp) (AllReadyH.cons rfl (fun K hK => ?_) (AllReadyH.cons rfl (fun K hK => ?_) AllReadyH.nil))
            · skip
              rw [if_pos (by rfl)]
              go_wp2_with fail
              refine hK.out _ _ trivial (fun hHeld => ?_)
              clear hK K
              try simp only [Act.put, List.setIfInBounds_toArray, List.set_cons_zero, List.set_cons_succ]
              refine held_only (i := 13) (by kernel_rfl) rfl (fun K hK => ?_)
              rw [if_pos (by rfl)]
              go_wp2_with fail
              refine hK.out _ _ trivial (fun hHeld => ?_)
              clear hK K
              try simp only [Act.put, List.setIfInBounds_toArray, List.set_cons_zero, List.set_cons_succ]
              refine held_yes (i := 14) (v := ?_) rfl (by kernel_rfl) (by kernel_rfl) (by kernel_rfl) (fun _ _ _ h => h) (by rfl) (fun w hSw => ?_) hHeld ?_
              rotate_left
              · go_simp; try with_reducible rfl
              simp only [List.setIfInBounds_toArray, List.set_cons_zero, List.set_cons_succ]
              refine held_yes (i := 15) (v := ?_) rfl (by kernel_rfl) (by kernel_rfl) (by kernel_rfl) (fun _ _ _ h => h) (by rfl) (fun w hSw => ?_) hHeld ?_
              rotate_left
              · go_simp; try with_reducible rfl
              simp only [List.setIfInBounds_toArray, List.set_cons_zero, List.set_cons_succ]
              refine held_yes (i := 16) (v := ?_) rfl (by kernel_rfl) (by kernel_rfl) (by kernel_rfl) (fun _ _ _ h => h) (by rfl) (fun w hSw => ?_) hHeld ?_
              rotate_left
              · go_simp; try with_reducible rfl
              simp only [List.setIfInBounds_toArray, List.set_cons_zero, List.set_cons_succ]
              refine held_only (i := 17) (by kernel_rfl) rfl (fun K hK => ?_)
              rw [if_pos (by rfl)]
              go_wp2_with fail
              refine hK.out _ _ trivial (fun hHeld => ?_)
              clear hK K
              try simp only [Act.put, List.setIfInBounds_toArray, List.set_cons_zero, List.set_cons_succ]
              refine wpAnyH_done (by kernel_rfl) ?_ _
              go_wp2_with fail
              case roundEnd =>
                exact ⟨⟨k + 1, by omega, by push_cast; rfl, HP.out⟩, by simp [intOf]; omega⟩
            · skip
              rw [if_pos (by rfl)]
              go_wp2_with fail
              refine hK.out _ _ trivial (fun hHeld => ?_)
              clear hK K
              try simp only [Act.put, List.setIfInBounds_toArray, List.set_cons_zero, List.set_cons_succ]
              refine held_only (i := 9) (by kernel_rfl) rfl (fun K hK => ?_)
              rw [if_pos (by rfl)]
              go_wp2_with fail
              refine hK.out _ _ trivial (fun hHeld => ?_)
              clear hK K
              try simp only [Act.put, List.setIfInBounds_toArray, List.set_cons_zero, List.set_cons_succ]
              refine held_yes (i := 14) (v := ?_) rfl (by kernel_rfl) (by kernel_rfl) (by kernel_rfl) (fun _ _ _ h => h) (by rfl) (fun w hSw => ?_) hHeld ?_
              rotate_left
              · go_simp; try with_reducible rfl
              simp only [List.setIfInBounds_toArray, List.set_cons_zero, List.set_cons_succ]
              refine held_yes (i := 15) (v := ?_) rfl (by kernel_rfl) (by kernel_rfl) (by kernel_rfl) (fun _ _ _ h => h) (by rfl) (fun w hSw => ?_) hHeld ?_
              rotate_left
              · go_simp; try with_reducible rfl
              simp only [List.setIfInBounds_toArray, List.set_cons_zero, List.set_cons_succ]
              refine held_yes (i := 16) (v := ?_) rfl (by kernel_rfl) (by kernel_rfl) (by kernel_rfl) (fun _ _ _ h => h) (by rfl) (fun w hSw => ?_) hHeld ?_
              rotate_left
              · go_simp; try with_reducible rfl
              simp only [List.setIfInBounds_toArray, List.set_cons_zero, List.set_cons_succ]
              refine held_only (i := 17) (by kernel_rfl) rfl (fun K hK => ?_)
              rw [if_pos (by rfl)]
              go_wp2_with fail
              refine hK.out _ _ trivial (fun hHeld => ?_)
              clear hK K
              try simp only [Act.put, List.setIfInBounds_toArray, List.set_cons_zero, List.set_cons_succ]
              refine wpAnyH_done (by kernel_rfl) ?_ _
              go_wp2_with fail
              case roundEnd =>
                exact ⟨⟨k + 1, by omega, by push_cast; rfl, HP.out⟩, by simp [intOf]; omega⟩
          · skip
            rw [if_pos (by rfl)]
            go_wp2_with fail
            refine hK.out _ _ trivial (fun hHeld => ?_)
            clear hK K
            try simp only [Act.put, List.setIfInBounds_toArray, List.set_cons_zero, List.set_cons_succ]
            refine wpAnyH_ready (rs := [5, 13]) (by kernel_rfl) (by simp) (AllReadyH.cons rfl (fun K hK => ?_) (AllReadyH.cons rfl (fun K hK => ?_) AllReadyH.nil))
            · skip
              rw [if_pos (by rfl)]
              go_wp2_with fail
              refine hK.out _ _ trivial (fun hHeld => ?_)
              clear hK K
              try simp only [Act.put, List.setIfInBounds_toArray, List.set_cons_zero, List.set_cons_succ]
              refine held_only (i := 13) (by kernel_rfl) rfl (fun K hK => ?_)
              rw [if_pos (by rfl)]
              go_wp2_with fail
              refine hK.out _ _ trivial (fun hHeld => ?_)
              clear hK K
              try simp only [Act.put, List.setIfInBounds_toArray, List.set_cons_zero, List.set_cons_succ]
              refine held_yes (i := 14) (v := ?_) rfl (by kernel_rfl) (by kernel_rfl) (by kernel_rfl) (fun _ _ _ h => h) (by rfl) (fun w hSw => ?_) hHeld ?_
              rotate_left
              · go_simp; try with_reducible rfl
              simp only [List.setIfInBounds_toArray, List.set_cons_zero, List.set_cons_succ]
              refine held_yes (i := 15) (v := ?_) rfl (by kernel_rfl) (by kernel_rfl) (by kernel_rfl) (fun _ _ _ h => h) (by rfl) (fun w hSw => ?_) hHeld ?_
              rotate_left
              · go_simp; try with_reducible rfl
              simp only [List.setIfInBounds_toArray, List.set_cons_zero, List.set_cons_succ]
              refine held_yes (i := 16) (v := ?_) rfl (by kernel_rfl) (by kernel_rfl) (by kernel_rfl) (fun _ _ _ h => h) (by rfl) (fun w hSw => ?_) hHeld ?_
              rotate_left
              · go_simp; try with_reducible rfl
              simp only [List.setIfInBounds_toArray, List.set_cons_zero, List.set_cons_succ]
              refine held_only (i := 17) (by kernel_rfl) rfl (fun K hK => ?_)
              rw [if_pos (by rfl)]
              go_wp2_with fail
              refine hK.out _ _ trivial (fun hHeld => ?_)
              clear hK K
              try simp only [Act.put, List.setIfInBounds_toArray, List.set_cons_zero, List.set_cons_succ]
              refine wpAnyH_done (by kernel_rfl) ?_ _
              go_wp2_with fail
              case roundEnd =>
                exact ⟨⟨k + 1, by omega, by push_cast; rfl, HP.out⟩, by simp [intOf]; omega⟩
            · skip
              rw [if_pos (by rfl)]
              go_wp2_with fail
              refine hK.out _ _ trivial (fun hHeld => ?_)
              clear hK K
              try simp only [Act.put, List.setIfInBounds_toArray, List.set_cons_zero, List.set_cons_succ]
              refine held_yes (i := 14) (v := ?_) rfl (by kernel_rfl) (by kernel_rfl) (by kernel_rfl) (fun _ _ _ h => h) (by rfl) (fun w hSw => ?_) hHeld ?_
              rotate_left
              · go_simp; try with_reducible rfl
              simp only [List.setIfInBounds_toArray, List.set_cons_zero, List.set_cons_succ]
              refine held_only (i := 5) (by kernel_rfl) rfl (fun K hK => ?_)
              rw [if_pos (by rfl)]
              go_wp2_with fail
              refine hK.out _ _ trivial (fun hHeld => ?_)
              clear hK K
              try simp only [Act.put, List.setIfInBounds_toArray, List.set_cons_zero, List.set_cons_succ]
              refine held_yes (i := 15) (v := ?_) rfl (by kernel_rfl) (by kernel_rfl) (by kernel_rfl) (fun _ _ _ h => h) (by rfl) (fun w hSw => ?_) hHeld ?_
              rotate_left
              · go_simp; try with_reducible rfl
              simp only [List.setIfInBounds_toArray, List.set_cons_zero, List.set_cons_succ]
              refine held_yes (i := 16) (v := ?_) rfl (by kernel_rfl) (by kernel_rfl) (by kernel_rfl) (fun _ _ _ h => h) (by rfl) (fun w hSw => ?_) hHeld ?_
              rotate_left
              · go_simp; try with_reducible rfl
              simp only [List.setIfInBounds_toArray, List.set_cons_zero, List.set_cons_succ]
              refine held_only (i := 17) (by kernel_rfl) rfl (fun K hK => ?_)
              rw [if_pos (by rfl)]
              go_wp2_with fail
              refine hK.out _ _ trivial (fun hHeld => ?_)
              clear hK K
              try simp only [Act.put, List.setIfInBounds_toArray, List.set_cons_zero, List.set_cons_succ]
              refine wpAnyH_done (by kernel_rfl) ?_ _
              go_wp2_with fail
              case roundEnd =>
                exact ⟨⟨k + 1, by omega, by push_cast; rfl, HP.out⟩, by simp [intOf]; omega⟩
          · skip
            rw [if_pos (by rfl)]
            go_wp2_with fail
            refine hK.out _ _ trivial (fun hHeld => ?_)
            clear hK K
            try simp only [Act.put, List.setIfInBounds_toArray, List.set_cons_zero, List.set_cons_succ]
            refine wpAnyH_ready (rs := [5, 9]) (by kernel_rfl) (by simp) (AllReadyH.cons rfl (fun K hK => ?_) (AllReadyH.cons rfl (fun K hK => ?_) AllReadyH.nil))
            · skip
              rw [if_pos (by rfl)]
              go_wp2_with fail
              refine hK.out _ _ trivial (fun hHeld => ?_)
              clear hK K
              try simp only [Act.put, List.setIfInBounds_toArray, List.set_cons_zero, List.set_cons_succ]
              refine held_only (i := 9) (by kernel_rfl) rfl (fun K hK => ?_)
              rw [if_pos (by rfl)]
              go_wp2_with fail
              refine hK.out _ _ trivial (fun hHeld => ?_)
              clear hK K
              try simp only [Act.put, List.setIfInBounds_toArray, List.set_cons_zero, List.set_cons_succ]
              refine held_yes (i := 14) (v := ?_) rfl (by kernel_rfl) (by kernel_rfl) (by kernel_rfl) (fun _ _ _ h => h) (by rfl) (fun w hSw => ?_) hHeld ?_
              rotate_left
              · go_simp; try with_reducible rfl
              simp only [List.setIfInBounds_toArray, List.set_cons_zero, List.set_cons_succ]
              refine held_yes (i := 15) (v := ?_) rfl (by kernel_rfl) (by kernel_rfl) (by kernel_rfl) (fun _ _ _ h => h) (by rfl) (fun w hSw => ?_) hHeld ?_
              rotate_left
              · go_simp; try with_reducible rfl
              simp only [List.setIfInBounds_toArray, List.set_cons_zero, List.set_cons_succ]
              refine held_yes (i := 16) (v := ?_) rfl (by kernel_rfl) (by kernel_rfl) (by kernel_rfl) (fun _ _ _ h => h) (by rfl) (fun w hSw => ?_) hHeld ?_
              rotate_left
              · go_simp; try with_reducible rfl
              simp only [List.setIfInBounds_toArray, List.set_cons_zero, List.set_cons_succ]
              refine held_only (i := 17) (by kernel_rfl) rfl (fun K hK => ?_)
              rw [if_pos (by rfl)]
              go_wp2_with fail
              refine hK.out _ _ trivial (fun hHeld => ?_)
              clear hK K
              try simp only [Act.put, List.setIfInBounds_toArray, List.set_cons_zero, List.set_cons_succ]
              refine wpAnyH_done (by kernel_rfl) ?_ _
              go_wp2_with fail
              case roundEnd =>
                exact ⟨⟨k + 1, by omega, by push_cast; rfl, HP.out⟩, by simp [intOf]; omega⟩
            · skip
              rw [if_pos (by rfl)]
              go_wp2_with fail
              refine hK.out _ _ trivial (fun hHeld => ?_)
              clear hK K
              try simp only [Act.put, List.setIfInBounds_toArray, List.set_cons_zero, List.set_cons_succ]
              refine held_yes (i := 14) (v := ?_) rfl (by kernel_rfl) (by kernel_rfl) (by kernel_rfl) (fun _ _ _ h => h) (by rfl) (fun w hSw => ?_) hHeld ?_
              rotate_left
              · go_simp; try with_reducible rfl
              simp only [List.setIfInBounds_toArray, List.set_cons_zero, List.set_cons_succ]
              refine held_only (i := 5) (by kernel_rfl) rfl (fun K hK => ?_)
              rw [if_pos (by rfl)]
              go_wp2_with fail
              refine hK.out _ _ trivial (fun hHeld => ?_)
              clear hK K
              try simp only [Act.put, List.setIfInBounds_toArray, List.set_cons_zero, List.set_cons_succ]
              refine held_yes (i := 15) (v := ?_) rfl (by kernel_rfl) (by kernel_rfl) (by kernel_rfl) (fun _ _ _ h => h) (by rfl) (fun w hSw => ?_) hHeld ?_
              rotate_left
              · go_simp; try with_reducible rfl
              simp only [List.setIfInBounds_toArray, List.set_cons_zero, List.set_cons_succ]
              refine held_yes (i := 16) (v := ?_) rfl (by kernel_rfl) (by kernel_rfl) (by kernel_rfl) (fun _ _ _ h => h) (by rfl) (fun w hSw => ?_) hHeld ?_
              rotate_left
              · go_simp; try with_reducible rfl
              simp only [List.setIfInBounds_toArray, List.set_cons_zero, List.set_cons_succ]
              refine held_only (i := 17) (by kernel_rfl) rfl (fun K hK => ?_)
              rw [if_pos (by rfl)]
              go_wp2_with fail
              refine hK.out _ _ trivial (fun hHeld => ?_)
              clear hK K
              try simp only [Act.put, List.setIfInBounds_toArray, List.set_cons_zero, List.set_cons_succ]
              refine wpAnyH_done (by kernel_rfl) ?_ _
              go_wp2_with fail
              case roundEnd =>
                exact ⟨⟨k + 1, by omega, by push_cast; rfl, HP.out⟩, by simp [intOf]; omega⟩
        · obtain rfl : k = m := by omega
          have HTN : Hid (TRel w g (mulRows a b (i + 1)) wr) := by rw [mulRows, hlb]; exact HT2
          go_wp2_with fail
          case roundEnd =>
            exact ⟨⟨i + 1, by omega, by push_cast; rfl, HTN.out⟩, by simp [intOf]; omega⟩
    · obtain rfl : i = n := by omega
      have HC0 : Hid (TRel w g (carry (mulRows a b i) (L - 1) 0) wr) := HT
      clear HT
      have hL1 : (L : Int) - 1 = ((L - 1 : Nat) : Int) := by omega
      go_wp2_with fail
      go_loopw [8] (fun s8 wr => ∃ j : Nat, j ≤ L - 1 ∧ s8 = .int .i64 ((L - 1 - j : Nat) : Int) ∧ TRel w g (carry (mulRows a b i) (L - 1) j) wr) (fun s8 _ => (intOf s8).toNat)
      case atStart => exact ⟨0, by omega, rfl, HC0.out⟩
      case round =>
        obtain ⟨j, hj, rfl, ht⟩ := hrel
        have HT := Lib.hid ht
        clear ht HC0
        by_cases hlt : j < L - 1
        · obtain ⟨q, hq⟩ : ∃ q, q = L - 1 - j := ⟨_, rfl⟩
          obtain ⟨q1, hq1⟩ : ∃ q1, q1 = q - 1 := ⟨_, rfl⟩
          have hqL : q < L := by omega
          have hq0 : q = q1 + 1 := by omega
          rw [← hq]
          obtain ⟨c1, f1⟩ := HT.out.drew.get (j := q1) (by rw [carry_length, mulRows_length]; omega)
          obtain ⟨c2, f2⟩ := HT.out.drew.get (j := q) (by rw [carry_length, mulRows_length]; omega)
          have HCA : Hid (carryA q (carry (mulRows a b i) (L - 1) j) = (carry (mulRows a b i) (L - 1) j).set q1 (wrap64 ((carry (mulRows a b i) (L - 1) j).getD q1 0 + wrap64 (Int.tdiv ((carry (mulRows a b i) (L - 1) j).getD q 0) 65536)))) := by rw [carryA, ← hq1]; exact Lib.hid rfl
          have vq2 : (q : Int) - 1 = (q1 : Int) := by omega
          have vq : IntKind.i64.wrap (q1 : Int) = (q1 : Int) := by rw [IntKind.wrap_i64]; omega
          obtain ⟨x, HX⟩ : ∃ x, Hid (x = (carry (mulRows a b i) (L - 1) j).getD q1 0) := ⟨_, Lib.hid rfl⟩
          obtain ⟨y, HY⟩ : ∃ x, Hid (x = (carry (mulRows a b i) (L - 1) j).getD q 0) := ⟨_, Lib.hid rfl⟩
          rw [← HX.out] at c1
          rw [← HY.out] at c2
          rw [← HX.out, ← HY.out] at HCA
          have HP1 := Lib.hid (HT.out.drew.put q1 (wrap64 (x + wrap64 (Int.tdiv y 65536))))
          rw [← HCA.out] at HP1
          have lq : (q : Int) < L := by omega
          have lq1 : (q1 : Int) < L := by omega
          have pq : (0 : Int) ≤ q := by omega
          have pq0 : (0 : Int) < q := by omega
          have pq1 : (0 : Int) ≤ q1 := by omega
          have HQJ : Hid (L - 1 - j = q) := Lib.hid hq.symm
          clear hq hq1 hq0
          go_wp2_with fail
          refine wp_region_held_drew (S := fun _ => True) (by kernel_rfl) trivial (fun hHeld => ?_)
          refine held_yes (i := 0) (v := ?_) rfl (by kernel_rfl) (by kernel_rfl) (by kernel_rfl) (fun _ _ _ h => h) (by rfl) (fun w hSw => ?_) hHeld ?_
          rotate_left
          · go_simp; try with_reducible rfl
          simp only [List.setIfInBounds_toArray, List.set_cons_zero, List.set_cons_succ]
          refine held_yes (i := 1) (v := ?_) rfl (by kernel_rfl) (by kernel_rfl) (by kernel_rfl) (fun _ _ _ h => h) (by rfl) (fun w hSw => ?_) hHeld ?_
          rotate_left
          · go_simp; try with_reducible rfl
          simp only [List.setIfInBounds_toArray, List.set_cons_zero, List.set_cons_succ]
          refine held_yes (i := 2) (v := ?_) rfl (by kernel_rfl) (by kernel_rfl) (by kernel_rfl) (fun _ _ _ h => h) (by rfl) (fun w hSw => ?_) hHeld ?_
          rotate_left
          · go_simp; try with_reducible rfl
          simp only [List.setIfInBounds_toArray, List.set_cons_zero, List.set_cons_succ]
          refine held_yes (i := 3) (v := ?_) rfl (by kernel_rfl) (by kernel_rfl) (by kernel_rfl) (fun _ _ _ h => h) (by rfl) (fun w hSw => ?_) hHeld ?_
          rotate_left
          · go_simp; try with_reducible rfl
          simp only [List.setIfInBounds_toArray, List.set_cons_zero, List.set_cons_succ]
          refine held_yes (i := 5) (v := ?_) rfl (by kernel_rfl) (by kernel_rfl) (by kernel_rfl) (fun _ _ _ h => h) (by rfl) (fun w hSw => ?_) hHeld ?_
          rotate_left
          · go_simp; try with_reducible rfl
          simp only [List.setIfInBounds_toArray, List.set_cons_zero, List.set_cons_succ]
          refine held_yes (i := 6) (v := ?_) rfl (by kernel_rfl) (by kernel_rfl) (by kernel_rfl) (fun _ _ _ h => h) (by rfl) (fun w hSw => ?_) hHeld ?_
          rotate_left
          · go_simp; try with_reducible rfl
          simp only [List.setIfInBounds_toArray, List.set_cons_zero, List.set_cons_succ]
          refine held_yes (i := 7) (v := ?_) rfl (by kernel_rfl) (by kernel_rfl) (by kernel_rfl) (fun _ _ _ h => h) (by rfl) (fun w hSw => ?_) hHeld ?_
          rotate_left
          · go_simp; try with_reducible rfl
          simp only [List.setIfInBounds_toArray, List.set_cons_zero, List.set_cons_succ]
          refine wpAnyH_ready (rs := [4, 8]) (by kernel_rfl) (by simp) (AllReadyH.cons rfl (fun K hK => ?_) (AllReadyH.cons rfl (fun K hK => ?_) AllReadyH.nil))
          · skip
            rw [if_pos (by rfl)]
            go_wp2_with fail
            refine hK.out _ _ trivial (fun hHeld => ?_)
            clear hK K
            try simp only [Act.put, List.setIfInBounds_toArray, List.set_cons_zero, List.set_cons_succ]
            refine held_only (i := 8) (by kernel_rfl) rfl (fun K hK => ?_)
            rw [if_pos (by rfl)]
            go_wp2_with fail
            refine hK.out _ _ trivial (fun hHeld => ?_)
            clear hK K
            try simp only [Act.put, List.setIfInBounds_toArray, List.set_cons_zero, List.set_cons_succ]
            refine held_yes (i := 9) (v := ?_) rfl (by kernel_rfl) (by kernel_rfl) (by kernel_rfl) (fun _ _ _ h => h) (by rfl) (fun w hSw => ?_) hHeld ?_
            rotate_left
            · go_simp; try with_reducible rfl
            simp only [List.setIfInBounds_toArray, List.set_cons_zero, List.set_cons_succ]
            refine held_yes (i := 10) (v := ?_) rfl (by kernel_rfl) (by kernel_rfl) (by kernel_rfl) (fun _ _ _ h => h) (by rfl) (fun w hSw => ?_) hHeld ?_
            rotate_left
            · go_simp; try with_reducible rfl
            simp only [List.setIfInBounds_toArray, List.set_cons_zero, List.set_cons_succ]
            refine held_yes (i := 11) (v := ?_) rfl (by kernel_rfl) (by kernel_rfl) (by kernel_rfl) (fun _ _ _ h => h) (by rfl) (fun w hSw => ?_) hHeld ?_
            rotate_left
            · go_simp; try with_reducible rfl
            simp only [List.setIfInBounds_toArray, List.set_cons_zero, List.set_cons_succ]
            refine held_only (i := 12) (by kernel_rfl) rfl (fun K hK => ?_)
            rw [if_pos (by rfl)]
            go_wp2_with fail
            refine world_at (F := fun wx => TRel w g (carryA q (carry (mulRows a b i) (L - 1) j)) wx) HP1.out (fun wq3 HT5 => ?_)
            refine hK.out _ _ trivial (fun hHeld => ?_)
            clear hK K
            try simp only [Act.put, List.setIfInBounds_toArray, List.set_cons_zero, List.set_cons_succ]
            refine wpAnyH_done (by kernel_rfl) ?_ _
            obtain ⟨c3, f3⟩ := HT5.out.get (j := q) (by rw [carryA, List.length_set, carry_length, mulRows_length]; omega)
            obtain ⟨z, HZ⟩ : ∃ x, Hid (x = (carryA q (carry (mulRows a b i) (L - 1) j)).getD q 0) := ⟨_, Lib.hid rfl⟩
            rw [← HZ.out] at c3
            have HP2 := Lib.hid (HT5.out.put q (Int.tmod z 65536))
            rw [show (carryA q (carry (mulRows a b i) (L - 1) j)).set q (Int.tmod z 65536) = carry (mulRows a b i) (L - 1) (j + 1) by rw [carry, carryB, HQJ.out, HZ.out]] at HP2
            go_wp2_with fail
            case roundEnd =>
              refine ⟨⟨j + 1, by omega, ?_, by first | exact HP2.out | exact HP2.out.drew⟩, by simp [intOf]; omega⟩
              have := HQJ.out; rw [show L - 1 - (j + 1) = q1 by omega]
          · skip
            rw [if_pos (by rfl)]
            go_wp2_with fail
            refine hK.out _ _ trivial (fun hHeld => ?_)
            clear hK K
            try simp only [Act.put, List.setIfInBounds_toArray, List.set_cons_zero, List.set_cons_succ]
            refine held_yes (i := 9) (v := ?_) rfl (by kernel_rfl) (by kernel_rfl) (by kernel_rfl) (fun _ _ _ h => h) (by rfl) (fun w hSw => ?_) hHeld ?_
            rotate_left
            · go_simp; try with_reducible rfl
            simp only [List.setIfInBounds_toArray, List.set_cons_zero, List.set_cons_succ]
            refine held_only (i := 4) (by kernel_rfl) rfl (fun K hK => ?_)
            rw [if_pos (by rfl)]
            go_wp2_with fail
            refine hK.out _ _ trivial (fun hHeld => ?_)
            clear hK K
            try simp only [Act.put, List.setIfInBounds_toArray, List.set_cons_zero, List.set_cons_succ]
            refine held_yes (i := 10) (v := ?_) rfl (by kernel_rfl) (by kernel_rfl) (by kernel_rfl) (fun _ _ _ h => h) (by rfl) (fun w hSw => ?_) hHeld ?_
            rotate_left
            · go_simp; try with_reducible rfl
            simp only [List.setIfInBounds_toArray, List.set_cons_zero, List.set_cons_succ]
            refine held_yes (i := 11) (v := ?_) rfl (by kernel_rfl) (by kernel_rfl) (by kernel_rfl) (fun _ _ _ h => h) (by rfl) (fun w hSw => ?_) hHeld ?_
            rotate_left
            · go_simp; try with_reducible rfl
            simp only [List.setIfInBounds_toArray, List.set_cons_zero, List.set_cons_succ]
            refine held_only (i := 12) (by kernel_rfl) rfl (fun K hK => ?_)
            rw [if_pos (by rfl)]
            go_wp2_with fail
            refine world_at (F := fun wx => TRel w g (carryA q (carry (mulRows a b i) (L - 1) j)) wx) HP1.out (fun wq6 HT5 => ?_)
            refine hK.out _ _ trivial (fun hHeld => ?_)
            clear hK K
            try simp only [Act.put, List.setIfInBounds_toArray, List.set_cons_zero, List.set_cons_succ]
            refine wpAnyH_done (by kernel_rfl) ?_ _
            obtain ⟨c3, f3⟩ := HT5.out.get (j := q) (by rw [carryA, List.length_set, carry_length, mulRows_length]; omega)
            obtain ⟨z, HZ⟩ : ∃ x, Hid (x = (carryA q (carry (mulRows a b i) (L - 1) j)).getD q 0) := ⟨_, Lib.hid rfl⟩
            rw [← HZ.out] at c3
            have HP2 := Lib.hid (HT5.out.put q (Int.tmod z 65536))
            rw [show (carryA q (carry (mulRows a b i) (L - 1) j)).set q (Int.tmod z 65536) = carry (mulRows a b i) (L - 1) (j + 1) by rw [carry, carryB, HQJ.out, HZ.out]] at HP2
            go_wp2_with fail
            case roundEnd =>
              refine ⟨⟨j + 1, by omega, ?_, by first | exact HP2.out | exact HP2.out.drew⟩, by simp [intOf]; omega⟩
              have := HQJ.out; rw [show L - 1 - (j + 1) = q1 by omega]
        · obtain rfl : j = L - 1 := by omega
          go_wp2_with fail
          go_ret
          refine ⟨?_, ?_⟩
          · rw [HG.out, show i + m - 1 = L by omega]; rfl
          · rw [← HG.out]
            have h := HT.out
            rw [show timesL a b = carry (mulRows a b i) (L - 1) (L - 1) by rw [timesL, hla, hlb, show i + m - 2 = L - 1 by omega]]
            exact h
end Go.Proofs.Ythpigmkdchnnoaa
