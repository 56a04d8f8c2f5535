/- Contracts of locketref01.below and root. -/
import Derived.Test.YthpigmkdchnnoaaRefB
namespace Go.Proofs.Ythpigmkdchnnoaa
open Go.RowKit
set_option linter.unusedVariables false
set_option linter.unusedSimpArgs false

def belowV (a : List Int) (p : Int) : Bool := if a.getD 0 0 = p then (a.drop 1).all (· == 0) else decide (a.getD 0 0 < p)
theorem rd_get_at {w : World} {b o n c : Nat} {l : List Int} (h : Rd w 1 (some ⟨b, o, none⟩) n c (zvs l)) {j : Nat} (hj : j < l.length) (hn : l.length = n) : w.cell? ⟨b, o + j, none⟩ = some (.int .i64 (l.getD j 0)) := rd_get h (Below.refl _ _) hj hn
set_option maxRecDepth 100000 in
set_option maxHeartbeats 1000000 in
theorem below_any (A : Option Addr) (n c : Nat) (a : List Int) (p : Int) (w : World) (ha : Rd w 1 A n c (zvs a)) (hn0 : 0 < n) (hn : n ≤ 1000) :
    Calls Try.prog 51 #[.slice A n c, .int .i64 p] w fun e w' => e = .returned (.bool (belowV a p)) ∧ Below w.heap.size w w' := by
  have hla : a.length = n := by have := ha.len; simp [zvs] at this; omega
  obtain ⟨ba, oa, rfl, _⟩ := ha.at_ hn0
  have HA := Lib.hid ha
  clear ha
  obtain ⟨a0, HA0⟩ : ∃ x, Hid (x = a.getD 0 0) := ⟨_, Lib.hid rfl⟩
  have c0 := rd_get_at HA.out (j := 0) (by omega) hla
  rw [← HA0.out, Nat.add_zero] at c0
  have hn0' : (0 : Int) < n := by omega
  go_enter Try.func51, Try.ntmps51
  by_cases h0 : a0 = p
  · go_wp2_with fail
    go_loopw [5] (fun s5 wr => ∃ i : Nat, 1 ≤ i ∧ i ≤ n ∧ s5 = .int .i64 i ∧ (∀ j, 1 ≤ j → j < i → a.getD j 0 = 0) ∧ Below w.heap.size w wr) (fun s5 _ => n - (intOf s5).toNat)
    case atStart => exact ⟨1, by omega, by omega, rfl, fun j h1 h2 => by omega, Below.refl _ _⟩
    case round =>
      obtain ⟨i, h1, hi, rfl, hz, hb⟩ := hrel
      have HZ := Lib.hid hz
      have HB := Lib.hid hb
      clear hz hb
      by_cases hlt : i < n
      · obtain ⟨ai, HAI⟩ : ∃ x, Hid (x = a.getD i 0) := ⟨_, Lib.hid rfl⟩
        have ci := rd_get HA.out HB.out (j := i) (by omega) hla
        rw [← HAI.out] at ci
        by_cases hi0 : ai = 0
        · have HZ2 : Hid (∀ j, 1 ≤ j → j < i + 1 → a.getD j 0 = 0) := Lib.hid (fun j h1 h2 => by
            rcases Nat.lt_or_eq_of_le (Nat.le_of_lt_succ h2) with h | rfl
            · exact HZ.out j h1 h
            · rw [← HAI.out]; exact hi0)
          go_wp2_with fail
          case roundEnd => exact ⟨⟨i + 1, by omega, by omega, by push_cast; rfl, HZ2.out, HB.out⟩, by simp [intOf]; omega⟩
        · go_wp2_with fail
          go_ret
          refine ⟨?_, HB.out⟩
          rw [belowV, if_pos (by rw [← HA0.out]; exact h0)]
          have : (a.drop 1).all (· == 0) = false := by
            rw [List.all_eq_false]
            refine ⟨ai, ?_, by simpa using hi0⟩
            rw [HAI.out, List.getD_eq_getElem?_getD, List.getElem?_eq_getElem (by omega)]
            rw [List.mem_iff_getElem]
            exact ⟨i - 1, by simp; omega, by simp [show i - 1 + 1 = i by omega]⟩
          rw [this]; rfl
      · obtain rfl : i = n := by omega
        go_wp2_with fail
        go_ret
        refine ⟨?_, HB.out⟩
        rw [belowV, if_pos (by rw [← HA0.out]; exact h0)]
        have : (a.drop 1).all (· == 0) = true := by
          rw [List.all_eq_true]
          intro x hx
          obtain ⟨j, hj, rfl⟩ := List.mem_iff_getElem.1 hx
          simp only [List.length_drop] at hj
          have := HZ.out (1 + j) (by omega) (by omega)
          rw [List.getD_eq_getElem?_getD, List.getElem?_eq_getElem (by omega)] at this
          simp only [Option.getD_some] at this
          simp only [List.getElem_drop, this]
          rfl
        rw [this]; rfl
  · go_wp2_with fail
    go_ret
    refine ⟨?_, Below.refl _ _⟩
    rw [belowV, if_neg (by rw [← HA0.out]; exact h0), ← HA0.out]; rfl

def okW (p : Nat) (cube : Bool) (v : Nat) : Bool := if cube then decide (wrap64 (wrap64 (((v : Int) + 1) * ((v : Int) + 1)) * ((v : Int) + 1)) ≤ (p : Int)) else decide (wrap64 (((v : Int) + 1) * ((v : Int) + 1)) ≤ (p : Int))
def wholeV (p : Nat) (cube : Bool) : Nat → Nat → Nat
  | 0, v => v
  | f + 1, v => if okW p cube v then wholeV p cube f (v + 1) else v
def digs (W : Nat) (y : Int) : List Int := [(W : Int), wrap64 (Int.tdiv y 65536), Int.tmod y 65536]
def prodV (cube : Bool) (n : List Int) : List Int := if cube then timesL (timesL n n) n else timesL n n
def stepX (p : Nat) (cube : Bool) (W B : Nat) (x : Int) : Int := if belowV (prodV cube (digs W (wrap64 (x + wrap64 (2 ^ B))))) p then wrap64 (x + wrap64 (2 ^ B)) else x
def xV (p : Nat) (cube : Bool) (W : Nat) : Nat → Int
  | 0 => 0
  | j + 1 => stepX p cube W (31 - j) (xV p cube W j)
def rootV (p : Nat) (cube : Bool) : Int := xV p cube (wholeV p cube 19 1) 32
theorem timesL_length (a b : List Int) : (timesL a b).length = a.length + b.length - 1 := by rw [timesL, carry_length, mulRows_length]
theorem TRel.rd {w wr : World} {g : Nat} {out : List Int} (h : TRel w g out wr) {n : Nat} (hn : out.length = n) (hm : n ≤ maxLen) : Rd wr 1 (some ⟨g, 0, none⟩) n n (zvs out) :=
  ⟨by simp [zvs, hn], Nat.le_refl _, hm, (fun e => by cases e), .inr ⟨g, 0, rfl, fun j u hu => by rw [cell_of_row wr _ _ _ _ _ h.row, Nat.zero_add]; simpa using hu⟩⟩

set_option maxRecDepth 100000 in
set_option maxHeartbeats 2000000 in
theorem root_true (p : Nat) (hp : p < 400) (w : World) :
    Calls Try.prog 39 #[.int .i64 p, .bool true] w fun e w' => e = .returned (.int .i64 (rootV p true)) ∧ Below w.heap.size w w' := by
  obtain ⟨W, HW⟩ : ∃ W, Hid (W = wholeV p true 19 1) := ⟨_, Lib.hid rfl⟩
  go_enter Try.func39, Try.ntmps39
  go_wp2_with fail
  go_loopw [5] (fun s5 wr => ∃ v : Nat, v ≤ 20 ∧ s5 = .int .i64 v ∧ wholeV p true (20 - v) v = W ∧ wr = w) (fun s5 _ => 21 - (intOf s5).toNat)
  case atStart => exact ⟨1, by omega, rfl, HW.out.symm, rfl⟩
  case round =>
    obtain ⟨v, hv, rfl, hw, rfl⟩ := hrel
    have HWV := Lib.hid hw
    clear hw
    by_cases hok : wrap64 (wrap64 (((v : Int) + 1) * ((v : Int) + 1)) * ((v : Int) + 1)) ≤ (p : Int)
    · have hv20 : v < 20 := by
        rcases Nat.lt_or_eq_of_le hv with h | rfl
        · exact h
        · have : wrap64 (wrap64 ((((20 : Nat) : Int) + 1) * (((20 : Nat) : Int) + 1)) * (((20 : Nat) : Int) + 1)) = 9261 := by decide +kernel
          rw [this] at hok
          omega
      have HWN : Hid (wholeV p true (20 - (v + 1)) (v + 1) = W) := by
        have h := HWV.out
        rw [show 20 - v = (20 - (v + 1)) + 1 by omega, wholeV, if_pos (by rw [okW]; simpa using hok)] at h
        exact Lib.hid h
      go_wp2_with fail
      case roundEnd =>
        exact ⟨⟨v + 1, by omega, by push_cast; rfl, HWN.out, trivial⟩, by simp [intOf]; omega⟩
    · have hok' : (p : Int) < wrap64 (wrap64 (((v : Int) + 1) * ((v : Int) + 1)) * ((v : Int) + 1)) := Int.not_le.1 hok
      have HWE : Hid (v = W) := by
        have h := HWV.out
        cases hf : 20 - v with
        | zero => rw [hf, wholeV] at h; exact Lib.hid h
        | succ f => rw [hf, wholeV, if_neg (by rw [okW]; simpa using hok)] at h; exact Lib.hid h
      have hv20 : v ≤ 20 := hv
      rw [HWE.out] at hok hok' hv20 ⊢
      have hokd : decide (wrap64 (wrap64 (((W : Int) + 1) * ((W : Int) + 1)) * ((W : Int) + 1)) ≤ (p : Int)) = false := by rw [decide_eq_false_iff_not]; exact hok
      clear HWV hv HWE
      go_wp2_with fail
      go_loopw [6, 7] (fun s6 s7 wx => ∃ (j : Nat) (x : Int), j ≤ 32 ∧ s6 = .int .i64 x ∧ s7 = .int .i64 (31 - (j : Int)) ∧ Hid (x = xV p true W j) ∧ Below wr.heap.size wr wx) (fun _ s7 _ => (intOf s7 + 1).toNat)
      case atStart => exact ⟨0, 0, by omega, rfl, rfl, Lib.hid rfl, Below.refl _ _⟩
      case round =>
        obtain ⟨j, x, hj, rfl, rfl, HXV, hb⟩ := hrel
        have HB := Lib.hid hb
        clear hb
        by_cases hlt : j < 32
        · obtain ⟨B, hB⟩ : ∃ B : Nat, 31 - (j : Int) = (B : Int) := ⟨31 - j, by omega⟩
          have hB32 : B < 32 := by omega
          have hB0 : (0 : Int) ≤ B := by omega
          have HR0 : Hid (Rd (wr.alloc (.cells #[.int .i64 (W : Int), .int .i64 (wrap64 (Int.tdiv (wrap64 (x + wrap64 (2 ^ B))) 65536)), .int .i64 (Int.tmod (wrap64 (x + wrap64 (2 ^ B))) 65536)] 3)) 1 (some ⟨wr.heap.size, 0, none⟩) 3 3 (zvs (digs W (wrap64 (x + wrap64 (2 ^ B)))))) := Lib.hid (rd_lit wr #[.int .i64 (W : Int), .int .i64 (wrap64 (Int.tdiv (wrap64 (x + wrap64 (2 ^ B))) 65536)), .int .i64 (Int.tmod (wrap64 (x + wrap64 (2 ^ B))) 65536)] 3 1 3 rfl (by simp [maxLen]))
          obtain ⟨g1, HG1⟩ : ∃ g, Hid (g = (wr.alloc (.cells #[.int .i64 (W : Int), .int .i64 (wrap64 (Int.tdiv (wrap64 (x + wrap64 (2 ^ B))) 65536)), .int .i64 (Int.tmod (wrap64 (x + wrap64 (2 ^ B))) 65536)] 3)).heap.size) := ⟨_, Lib.hid rfl⟩
          have HC1 : Hid (Calls Try.prog 50 #[.slice (some ⟨wr.heap.size, 0, none⟩) 3 3, .slice (some ⟨wr.heap.size, 0, none⟩) 3 3] (wr.alloc (.cells #[.int .i64 (W : Int), .int .i64 (wrap64 (Int.tdiv (wrap64 (x + wrap64 (2 ^ B))) 65536)), .int .i64 (Int.tmod (wrap64 (x + wrap64 (2 ^ B))) 65536)] 3)) fun e w' => e = .returned (.slice (some ⟨g1, 0, none⟩) 5 5) ∧ TRel (wr.alloc (.cells #[.int .i64 (W : Int), .int .i64 (wrap64 (Int.tdiv (wrap64 (x + wrap64 (2 ^ B))) 65536)), .int .i64 (Int.tmod (wrap64 (x + wrap64 (2 ^ B))) 65536)] 3)) g1 (timesL (digs W (wrap64 (x + wrap64 (2 ^ B)))) (digs W (wrap64 (x + wrap64 (2 ^ B))))) w') := by
            rw [HG1.out]
            exact Lib.hid (times_any _ 3 3 (digs W (wrap64 (x + wrap64 (2 ^ B)))) _ 3 3 (digs W (wrap64 (x + wrap64 (2 ^ B)))) _ HR0.out HR0.out (by omega) (by omega) (by omega) (by omega))
          have HB1 := Lib.hid (HB.out.alloc HB.out.size (.cells #[.int .i64 (W : Int), .int .i64 (wrap64 (Int.tdiv (wrap64 (x + wrap64 (2 ^ B))) 65536)), .int .i64 (Int.tmod (wrap64 (x + wrap64 (2 ^ B))) 65536)] 3))
          obtain ⟨A1, HA1⟩ : ∃ a, Hid (a = wr.heap.size) := ⟨_, Lib.hid rfl⟩
          go_wp2_with fail
          refine HC1.out.mono ?_
          rintro e w1 ⟨rfl, ht1⟩
          have HT1 := Lib.hid ht1
          have HBW1 := Lib.hid (HB1.out.trans (ht1.below.mono HB1.out.size))
          have HR1 := Lib.hid (HR0.out.below ht1.below)
          have HRM := Lib.hid (ht1.rd (n := 5) (by rw [timesL_length]; rfl) (by simp [maxLen]))
          clear ht1 HC1
          obtain ⟨ml, HML⟩ : ∃ l, Hid (l = timesL (digs W (wrap64 (x + wrap64 (2 ^ B)))) (digs W (wrap64 (x + wrap64 (2 ^ B))))) := ⟨_, Lib.hid rfl⟩
          rw [← HML.out] at HRM
          obtain ⟨g2, HG2⟩ : ∃ g, Hid (g = w1.heap.size) := ⟨_, Lib.hid rfl⟩
          have HC2 : Hid (Calls Try.prog 50 #[.slice (some ⟨g1, 0, none⟩) 5 5, .slice (some ⟨wr.heap.size, 0, none⟩) 3 3] w1 fun e w' => e = .returned (.slice (some ⟨g2, 0, none⟩) 7 7) ∧ TRel w1 g2 (timesL ml (digs W (wrap64 (x + wrap64 (2 ^ B))))) w') := by
            rw [HG2.out]
            exact Lib.hid (times_any _ 5 5 ml _ 3 3 (digs W (wrap64 (x + wrap64 (2 ^ B)))) _ HRM.out HR1.out (by omega) (by omega) (by omega) (by omega))
          go_wp2_with fail
          refine HC2.out.mono ?_
          rintro e w2 ⟨rfl, ht2⟩
          have HBW2 := Lib.hid (HBW1.out.trans (ht2.below.mono HBW1.out.size))
          have HRP := Lib.hid (ht2.rd (n := 7) (by rw [timesL_length, HML.out, timesL_length]; rfl) (by simp [maxLen]))
          clear ht2 HC2
          have HC3 := Lib.hid (below_any _ 7 7 (timesL ml (digs W (wrap64 (x + wrap64 (2 ^ B))))) p w2 HRP.out (by omega) (by omega))
          have HPV : Hid (prodV true (digs W (wrap64 (x + wrap64 (2 ^ B)))) = timesL ml (digs W (wrap64 (x + wrap64 (2 ^ B))))) := Lib.hid (by rw [prodV, if_pos rfl, HML.out])
          rw [← HPV.out] at HC3
          obtain ⟨bv, HBV⟩ : ∃ b, Hid (b = belowV (prodV true (digs W (wrap64 (x + wrap64 (2 ^ B))))) p) := ⟨_, Lib.hid rfl⟩
          rw [← HBV.out] at HC3
          go_wp2_with fail
          refine HC3.out.mono ?_
          rintro e w3 ⟨rfl, hb3⟩
          have HBW3 := Lib.hid (HBW2.out.trans (hb3.mono HBW2.out.size))
          clear hb3 HC3
          have HB2 : Hid (B = 31 - j) := Lib.hid (by omega)
          have HX1 : Hid (xV p true W (j + 1) = if bv = true then (wrap64 (x + wrap64 (2 ^ B))) else x) := by rw [xV, stepX, ← HB2.out, ← HXV.out, ← HBV.out]; exact Lib.hid rfl
          cases bv with
          | true =>
            have HXN : Hid ((wrap64 (x + wrap64 (2 ^ B))) = xV p true W (j + 1)) := Lib.hid (by rw [HX1.out, if_pos rfl])
            go_wp2_with fail
            case roundEnd =>
              refine ⟨⟨j + 1, (wrap64 (x + wrap64 (2 ^ B))), ?_, rfl, congrArg (Value.int .i64) ?_, HXN, HBW3.out⟩, ?_⟩
              · omega
              · omega
              · simp only [intOf]; omega
          | false =>
            have HXN : Hid (x = xV p true W (j + 1)) := Lib.hid (by rw [HX1.out, if_neg (by decide)])
            go_wp2_with fail
            case roundEnd =>
              refine ⟨⟨j + 1, x, ?_, rfl, congrArg (Value.int .i64) ?_, HXN, HBW3.out⟩, ?_⟩
              · omega
              · omega
              · simp only [intOf]; omega
        · obtain rfl : j = 32 := by omega
          go_wp2_with fail
          go_ret
          exact ⟨by rw [rootV, ← HW.out, ← HXV.out]; rfl, HB.out⟩

set_option maxRecDepth 100000 in
set_option maxHeartbeats 2000000 in
theorem root_false (p : Nat) (hp : p < 400) (w : World) :
    Calls Try.prog 39 #[.int .i64 p, .bool false] w fun e w' => e = .returned (.int .i64 (rootV p false)) ∧ Below w.heap.size w w' := by
  obtain ⟨W, HW⟩ : ∃ W, Hid (W = wholeV p false 19 1) := ⟨_, Lib.hid rfl⟩
  go_enter Try.func39, Try.ntmps39
  go_wp2_with fail
  go_loopw [5] (fun s5 wr => ∃ v : Nat, v ≤ 20 ∧ s5 = .int .i64 v ∧ wholeV p false (20 - v) v = W ∧ wr = w) (fun s5 _ => 21 - (intOf s5).toNat)
  case atStart => exact ⟨1, by omega, rfl, HW.out.symm, rfl⟩
  case round =>
    obtain ⟨v, hv, rfl, hw, rfl⟩ := hrel
    have HWV := Lib.hid hw
    clear hw
    by_cases hok : wrap64 (((v : Int) + 1) * ((v : Int) + 1)) ≤ (p : Int)
    · have hv20 : v < 20 := by
        rcases Nat.lt_or_eq_of_le hv with h | rfl
        · exact h
        · have : wrap64 ((((20 : Nat) : Int) + 1) * (((20 : Nat) : Int) + 1)) = 441 := by decide +kernel
          rw [this] at hok
          omega
      have HWN : Hid (wholeV p false (20 - (v + 1)) (v + 1) = W) := by
        have h := HWV.out
        rw [show 20 - v = (20 - (v + 1)) + 1 by omega, wholeV, if_pos (by rw [okW]; simpa using hok)] at h
        exact Lib.hid h
      go_wp2_with fail
      case roundEnd =>
        exact ⟨⟨v + 1, by omega, by push_cast; rfl, HWN.out, trivial⟩, by simp [intOf]; omega⟩
    · have hok' : (p : Int) < wrap64 (((v : Int) + 1) * ((v : Int) + 1)) := Int.not_le.1 hok
      have HWE : Hid (v = W) := by
        have h := HWV.out
        cases hf : 20 - v with
        | zero => rw [hf, wholeV] at h; exact Lib.hid h
        | succ f => rw [hf, wholeV, if_neg (by rw [okW]; simpa using hok)] at h; exact Lib.hid h
      have hv20 : v ≤ 20 := hv
      rw [HWE.out] at hok hok' hv20 ⊢
      have hokd : decide (wrap64 (((W : Int) + 1) * ((W : Int) + 1)) ≤ (p : Int)) = false := by rw [decide_eq_false_iff_not]; exact hok
      clear HWV hv HWE
      go_wp2_with fail
      go_loopw [6, 7] (fun s6 s7 wx => ∃ (j : Nat) (x : Int), j ≤ 32 ∧ s6 = .int .i64 x ∧ s7 = .int .i64 (31 - (j : Int)) ∧ Hid (x = xV p false W j) ∧ Below wr.heap.size wr wx) (fun _ s7 _ => (intOf s7 + 1).toNat)
      case atStart => exact ⟨0, 0, by omega, rfl, rfl, Lib.hid rfl, Below.refl _ _⟩
      case round =>
        obtain ⟨j, x, hj, rfl, rfl, HXV, hb⟩ := hrel
        have HB := Lib.hid hb
        clear hb
        by_cases hlt : j < 32
        · obtain ⟨B, hB⟩ : ∃ B : Nat, 31 - (j : Int) = (B : Int) := ⟨31 - j, by omega⟩
          have hB32 : B < 32 := by omega
          have hB0 : (0 : Int) ≤ B := by omega
          have HR0 : Hid (Rd (wr.alloc (.cells #[.int .i64 (W : Int), .int .i64 (wrap64 (Int.tdiv (wrap64 (x + wrap64 (2 ^ B))) 65536)), .int .i64 (Int.tmod (wrap64 (x + wrap64 (2 ^ B))) 65536)] 3)) 1 (some ⟨wr.heap.size, 0, none⟩) 3 3 (zvs (digs W (wrap64 (x + wrap64 (2 ^ B)))))) := Lib.hid (rd_lit wr #[.int .i64 (W : Int), .int .i64 (wrap64 (Int.tdiv (wrap64 (x + wrap64 (2 ^ B))) 65536)), .int .i64 (Int.tmod (wrap64 (x + wrap64 (2 ^ B))) 65536)] 3 1 3 rfl (by simp [maxLen]))
          obtain ⟨g1, HG1⟩ : ∃ g, Hid (g = (wr.alloc (.cells #[.int .i64 (W : Int), .int .i64 (wrap64 (Int.tdiv (wrap64 (x + wrap64 (2 ^ B))) 65536)), .int .i64 (Int.tmod (wrap64 (x + wrap64 (2 ^ B))) 65536)] 3)).heap.size) := ⟨_, Lib.hid rfl⟩
          have HC1 : Hid (Calls Try.prog 50 #[.slice (some ⟨wr.heap.size, 0, none⟩) 3 3, .slice (some ⟨wr.heap.size, 0, none⟩) 3 3] (wr.alloc (.cells #[.int .i64 (W : Int), .int .i64 (wrap64 (Int.tdiv (wrap64 (x + wrap64 (2 ^ B))) 65536)), .int .i64 (Int.tmod (wrap64 (x + wrap64 (2 ^ B))) 65536)] 3)) fun e w' => e = .returned (.slice (some ⟨g1, 0, none⟩) 5 5) ∧ TRel (wr.alloc (.cells #[.int .i64 (W : Int), .int .i64 (wrap64 (Int.tdiv (wrap64 (x + wrap64 (2 ^ B))) 65536)), .int .i64 (Int.tmod (wrap64 (x + wrap64 (2 ^ B))) 65536)] 3)) g1 (timesL (digs W (wrap64 (x + wrap64 (2 ^ B)))) (digs W (wrap64 (x + wrap64 (2 ^ B))))) w') := by
            rw [HG1.out]
            exact Lib.hid (times_any _ 3 3 (digs W (wrap64 (x + wrap64 (2 ^ B)))) _ 3 3 (digs W (wrap64 (x + wrap64 (2 ^ B)))) _ HR0.out HR0.out (by omega) (by omega) (by omega) (by omega))
          have HB1 := Lib.hid (HB.out.alloc HB.out.size (.cells #[.int .i64 (W : Int), .int .i64 (wrap64 (Int.tdiv (wrap64 (x + wrap64 (2 ^ B))) 65536)), .int .i64 (Int.tmod (wrap64 (x + wrap64 (2 ^ B))) 65536)] 3))
          obtain ⟨A1, HA1⟩ : ∃ a, Hid (a = wr.heap.size) := ⟨_, Lib.hid rfl⟩
          go_wp2_with fail
          refine HC1.out.mono ?_
          rintro e w1 ⟨rfl, ht1⟩
          have HT1 := Lib.hid ht1
          have HBW1 := Lib.hid (HB1.out.trans (ht1.below.mono HB1.out.size))
          have HR1 := Lib.hid (HR0.out.below ht1.below)
          have HRM := Lib.hid (ht1.rd (n := 5) (by rw [timesL_length]; rfl) (by simp [maxLen]))
          clear ht1 HC1
          have HBW2 := HBW1
          obtain ⟨ml, HML⟩ : ∃ l, Hid (l = timesL (digs W (wrap64 (x + wrap64 (2 ^ B)))) (digs W (wrap64 (x + wrap64 (2 ^ B))))) := ⟨_, Lib.hid rfl⟩
          rw [← HML.out] at HRM
          have HC3 := Lib.hid (below_any _ 5 5 ml p w1 HRM.out (by omega) (by omega))
          have HPV : Hid (prodV false (digs W (wrap64 (x + wrap64 (2 ^ B)))) = ml) := Lib.hid (by rw [prodV, if_neg (by decide), HML.out])
          rw [← HPV.out] at HC3
          obtain ⟨bv, HBV⟩ : ∃ b, Hid (b = belowV (prodV false (digs W (wrap64 (x + wrap64 (2 ^ B))))) p) := ⟨_, Lib.hid rfl⟩
          rw [← HBV.out] at HC3
          go_wp2_with fail
          refine HC3.out.mono ?_
          rintro e w3 ⟨rfl, hb3⟩
          have HBW3 := Lib.hid (HBW2.out.trans (hb3.mono HBW2.out.size))
          clear hb3 HC3
          have HB2 : Hid (B = 31 - j) := Lib.hid (by omega)
          have HX1 : Hid (xV p false W (j + 1) = if bv = true then (wrap64 (x + wrap64 (2 ^ B))) else x) := by rw [xV, stepX, ← HB2.out, ← HXV.out, ← HBV.out]; exact Lib.hid rfl
          cases bv with
          | true =>
            have HXN : Hid ((wrap64 (x + wrap64 (2 ^ B))) = xV p false W (j + 1)) := Lib.hid (by rw [HX1.out, if_pos rfl])
            go_wp2_with fail
            case roundEnd =>
              refine ⟨⟨j + 1, (wrap64 (x + wrap64 (2 ^ B))), ?_, rfl, congrArg (Value.int .i64) ?_, HXN, HBW3.out⟩, ?_⟩
              · omega
              · omega
              · simp only [intOf]; omega
          | false =>
            have HXN : Hid (x = xV p false W (j + 1)) := Lib.hid (by rw [HX1.out, if_neg (by decide)])
            go_wp2_with fail
            case roundEnd =>
              refine ⟨⟨j + 1, x, ?_, rfl, congrArg (Value.int .i64) ?_, HXN, HBW3.out⟩, ?_⟩
              · omega
              · omega
              · simp only [intOf]; omega
        · obtain rfl : j = 32 := by omega
          go_wp2_with fail
          go_ret
          exact ⟨by rw [rootV, ← HW.out, ← HXV.out]; rfl, HB.out⟩
end Go.Proofs.Ythpigmkdchnnoaa
