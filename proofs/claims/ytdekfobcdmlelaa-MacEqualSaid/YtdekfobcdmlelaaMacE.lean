/- The walk of locketlaw02.MacEqual. -/
import Derived.Test.YtdekfobcdmlelaaMacD
namespace Go.Proofs.Ytdekfobcdmlelaa
open Go.RowKit
set_option linter.unusedVariables false
set_option linter.unusedSimpArgs false
set_option maxHeartbeats 1000000 in
theorem MacEqual_ok (w : World) (A : Option Addr) (n c : Nat) (xs : List UInt8) (B : Option Addr) (m d : Nat) (ys : List UInt8) (hx : Rd w 1 A n c (bvs xs)) (hy : Rd w 1 B m d (bvs ys)) :
    Calls Try.prog 6 #[.slice A n c, .slice B m d] w (Tells w true) := by
  have HX0 := Lib.hid hx
  have HY0 := Lib.hid hy
  clear hx hy
  go_enter Try.func6, Try.ntmps6
  go_wp2_with fail
  refine (anchor2 w).mono ?_
  rintro e w1 ⟨rfl, hb1⟩
  have HB1 := Lib.hid hb1
  have HX := Lib.hid (HX0.out.below hb1)
  have HY := Lib.hid (HY0.out.below hb1)
  clear hb1 HX0 HY0
  go_wp2_with fail
  by_cases hne : xs = ys
  · subst hne
    refine wp_region_held_drew (S := fun w' => Below w1.heap.size w1 w') (by kernel_rfl) ((Below.refl _ _).drew) (fun hHeld => ?_)
    refine held_yes (i := 0) (v := ?_) rfl (by kernel_rfl) (by kernel_rfl) (by kernel_rfl) (fun _ _ _ h => h) (by rfl) (fun w hSw => ?_) hHeld ?_
    rotate_left
    · go_simp; try with_reducible rfl
    simp only [List.setIfInBounds_toArray, List.set_cons_zero, List.set_cons_succ]
    refine held_yes (i := 1) (v := ?_) rfl (by kernel_rfl) (by kernel_rfl) (by kernel_rfl) (fun _ _ _ h => h) (by rfl) (fun w hSw => ?_) hHeld ?_
    rotate_left
    · go_simp; try with_reducible rfl
    simp only [List.setIfInBounds_toArray, List.set_cons_zero, List.set_cons_succ]
    refine held_yes (i := 3) (v := ?_) rfl (by kernel_rfl) (by kernel_rfl) (by kernel_rfl) (fun _ _ _ h => h) (by rfl) (fun w hSw => ?_) hHeld ?_
    rotate_left
    · go_simp; try with_reducible rfl
    simp only [List.setIfInBounds_toArray, List.set_cons_zero, List.set_cons_succ]
    refine held_yes (i := 4) (v := ?_) rfl (by kernel_rfl) (by kernel_rfl) (by kernel_rfl) (fun _ _ _ h => h) (by rfl) (fun w hSw => ?_) hHeld ?_
    rotate_left
    · have kx := str_of (HX.out.below hSw); go_simp; try with_reducible rfl
    simp only [List.setIfInBounds_toArray, List.set_cons_zero, List.set_cons_succ]
    refine held_yes (i := 5) (v := ?_) rfl (by kernel_rfl) (by kernel_rfl) (by kernel_rfl) (fun _ _ _ h => h) (by rfl) (fun w hSw => ?_) hHeld ?_
    rotate_left
    · go_simp; try with_reducible rfl
    simp only [List.setIfInBounds_toArray, List.set_cons_zero, List.set_cons_succ]
    refine held_yes (i := 6) (v := ?_) rfl (by kernel_rfl) (by kernel_rfl) (by kernel_rfl) (fun _ _ _ h => h) (by rfl) (fun w hSw => ?_) hHeld ?_
    rotate_left
    · have ky := str_of (HY.out.below hSw); go_simp; try with_reducible rfl
    simp only [List.setIfInBounds_toArray, List.set_cons_zero, List.set_cons_succ]
    refine held_yes (i := 7) (v := ?_) rfl (by kernel_rfl) (by kernel_rfl) (by kernel_rfl) (fun _ _ _ h => h) (by rfl) (fun w hSw => ?_) hHeld ?_
    rotate_left
    · go_simp; try with_reducible rfl
    simp only [List.setIfInBounds_toArray, List.set_cons_zero, List.set_cons_succ]
    refine held_only (i := 2) (by kernel_rfl) rfl (fun K hK => ?_)
    rw [if_pos (by rfl)]
    go_simp
    refine (equal_any A n c xs B m d xs w1.drew (HX.out.below ((Below.refl w1.heap.size w1).drew)) (HY.out.below ((Below.refl w1.heap.size w1).drew))).mono ?_
    rintro e wq1 ⟨rfl, hb2⟩
    have HBQ1 := Lib.hid hb2
    clear hb2
    rw [show decide (xs = xs) = true by simp]
    go_wp2_with fail
    refine hK.out _ _ ((Below.refl w1.heap.size w1).drew.trans HBQ1.out) (fun _ => ?_)
    clear hK K
    try simp only [Act.put, List.setIfInBounds_toArray, List.set_cons_zero, List.set_cons_succ]
    refine wpAnyH_mono (S' := fun w' => Below wq1.heap.size wq1 w') (fun w' h => ((Below.refl w1.heap.size w1).drew.trans HBQ1.out).trans (h.mono (by have := HBQ1.out.size; first | exact this | simpa using this))) ?_
    have hHeld : Below wq1.heap.size wq1 wq1 := Below.refl _ _
    refine held_yes (i := 8) (v := ?_) rfl (by kernel_rfl) (by kernel_rfl) (by kernel_rfl) (fun _ _ _ h => h) (by rfl) (fun w hSw => ?_) hHeld ?_
    rotate_left
    · go_simp; try with_reducible rfl
    simp only [List.setIfInBounds_toArray, List.set_cons_zero, List.set_cons_succ]
    refine held_yes (i := 9) (v := ?_) rfl (by kernel_rfl) (by kernel_rfl) (by kernel_rfl) (fun _ _ _ h => h) (by rfl) (fun w hSw => ?_) hHeld ?_
    rotate_left
    · go_simp; try with_reducible rfl
    simp only [List.setIfInBounds_toArray, List.set_cons_zero, List.set_cons_succ]
    refine held_yes (i := 10) (v := ?_) rfl (by kernel_rfl) (by kernel_rfl) (by kernel_rfl) (fun _ _ _ h => h) (by rfl) (fun w hSw => ?_) hHeld ?_
    rotate_left
    · go_simp; try with_reducible rfl
    simp only [List.setIfInBounds_toArray, List.set_cons_zero, List.set_cons_succ]
    refine held_yes (i := 11) (v := ?_) rfl (by kernel_rfl) (by kernel_rfl) (by kernel_rfl) (fun _ _ _ h => h) (by rfl) (fun w hSw => ?_) hHeld ?_
    rotate_left
    · go_simp; try with_reducible rfl
    simp only [List.setIfInBounds_toArray, List.set_cons_zero, List.set_cons_succ]
    refine held_only (i := 12) (by kernel_rfl) rfl (fun K hK => ?_)
    rw [if_pos (by rfl)]
    go_simp
    refine (equal_any A n c xs A n c xs wq1 (HX.out.below (((Below.refl w1.heap.size w1).drew).trans (HBQ1.out.mono ((Below.refl w1.heap.size w1).drew).size))) (HX.out.below (((Below.refl w1.heap.size w1).drew).trans (HBQ1.out.mono ((Below.refl w1.heap.size w1).drew).size)))).mono ?_
    rintro e wq2 ⟨rfl, hb12⟩
    have HBQ2 := Lib.hid hb12
    clear hb12
    rw [show decide (xs = xs) = true by simp]
    go_wp2_with fail
    refine hK.out _ _ HBQ2.out (fun _ => ?_)
    clear hK K
    try simp only [Act.put, List.setIfInBounds_toArray, List.set_cons_zero, List.set_cons_succ]
    refine wpAnyH_mono (S' := fun w' => Below wq2.heap.size wq2 w') (fun w' h => HBQ2.out.trans (h.mono (by have := HBQ2.out.size; first | exact this | simpa using this))) ?_
    have hHeld : Below wq2.heap.size wq2 wq2 := Below.refl _ _
    refine held_yes (i := 13) (v := ?_) rfl (by kernel_rfl) (by kernel_rfl) (by kernel_rfl) (fun _ _ _ h => h) (by rfl) (fun w hSw => ?_) hHeld ?_
    rotate_left
    · go_simp; try with_reducible rfl
    simp only [List.setIfInBounds_toArray, List.set_cons_zero, List.set_cons_succ]
    refine held_yes (i := 14) (v := ?_) rfl (by kernel_rfl) (by kernel_rfl) (by kernel_rfl) (fun _ _ _ h => h) (by rfl) (fun w hSw => ?_) hHeld ?_
    rotate_left
    · go_simp; try with_reducible rfl
    simp only [List.setIfInBounds_toArray, List.set_cons_zero, List.set_cons_succ]
    refine wpAnyH_done (by kernel_rfl) ?_ _
    go_wp2_with fail
    go_ret
    exact ⟨rfl, HB1.out.trans (((((Below.refl w1.heap.size w1).drew).trans (HBQ1.out.mono ((Below.refl w1.heap.size w1).drew).size)).trans (HBQ2.out.mono (((Below.refl w1.heap.size w1).drew).trans (HBQ1.out.mono ((Below.refl w1.heap.size w1).drew).size)).size)).mono HB1.out.size)⟩
  · have hs2 : (xs == ys) = false := by rw [beq_eq_false_iff_ne]; exact hne
    refine wp_region_held_drew (S := fun w' => Below w1.heap.size w1 w') (by kernel_rfl) ((Below.refl _ _).drew) (fun hHeld => ?_)
    refine held_yes (i := 0) (v := ?_) rfl (by kernel_rfl) (by kernel_rfl) (by kernel_rfl) (fun _ _ _ h => h) (by rfl) (fun w hSw => ?_) hHeld ?_
    rotate_left
    · go_simp; try with_reducible rfl
    simp only [List.setIfInBounds_toArray, List.set_cons_zero, List.set_cons_succ]
    refine held_yes (i := 1) (v := ?_) rfl (by kernel_rfl) (by kernel_rfl) (by kernel_rfl) (fun _ _ _ h => h) (by rfl) (fun w hSw => ?_) hHeld ?_
    rotate_left
    · go_simp; try with_reducible rfl
    simp only [List.setIfInBounds_toArray, List.set_cons_zero, List.set_cons_succ]
    refine held_yes (i := 3) (v := ?_) rfl (by kernel_rfl) (by kernel_rfl) (by kernel_rfl) (fun _ _ _ h => h) (by rfl) (fun w hSw => ?_) hHeld ?_
    rotate_left
    · go_simp; try with_reducible rfl
    simp only [List.setIfInBounds_toArray, List.set_cons_zero, List.set_cons_succ]
    refine held_yes (i := 4) (v := ?_) rfl (by kernel_rfl) (by kernel_rfl) (by kernel_rfl) (fun _ _ _ h => h) (by rfl) (fun w hSw => ?_) hHeld ?_
    rotate_left
    · have kx := str_of (HX.out.below hSw); go_simp; try with_reducible rfl
    simp only [List.setIfInBounds_toArray, List.set_cons_zero, List.set_cons_succ]
    refine held_yes (i := 5) (v := ?_) rfl (by kernel_rfl) (by kernel_rfl) (by kernel_rfl) (fun _ _ _ h => h) (by rfl) (fun w hSw => ?_) hHeld ?_
    rotate_left
    · go_simp; try with_reducible rfl
    simp only [List.setIfInBounds_toArray, List.set_cons_zero, List.set_cons_succ]
    refine held_yes (i := 6) (v := ?_) rfl (by kernel_rfl) (by kernel_rfl) (by kernel_rfl) (fun _ _ _ h => h) (by rfl) (fun w hSw => ?_) hHeld ?_
    rotate_left
    · have ky := str_of (HY.out.below hSw); go_simp; try with_reducible rfl
    simp only [List.setIfInBounds_toArray, List.set_cons_zero, List.set_cons_succ]
    refine held_yes (i := 7) (v := ?_) rfl (by kernel_rfl) (by kernel_rfl) (by kernel_rfl) (fun _ _ _ h => h) (by rfl) (fun w hSw => ?_) hHeld ?_
    rotate_left
    · go_simp; try with_reducible rfl
    simp only [List.setIfInBounds_toArray, List.set_cons_zero, List.set_cons_succ]
    refine held_only (i := 2) (by kernel_rfl) rfl (fun K hK => ?_)
    rw [if_pos (by rfl)]
    go_simp
    refine (equal_any A n c xs B m d ys w1.drew (HX.out.below ((Below.refl w1.heap.size w1).drew)) (HY.out.below ((Below.refl w1.heap.size w1).drew))).mono ?_
    rintro e wq1 ⟨rfl, hb2⟩
    have HBQ1 := Lib.hid hb2
    clear hb2
    rw [show decide (xs = ys) = false by simp [hne]]
    go_wp2_with fail
    refine hK.out _ _ ((Below.refl w1.heap.size w1).drew.trans HBQ1.out) (fun _ => ?_)
    clear hK K
    try simp only [Act.put, List.setIfInBounds_toArray, List.set_cons_zero, List.set_cons_succ]
    refine wpAnyH_mono (S' := fun w' => Below wq1.heap.size wq1 w') (fun w' h => ((Below.refl w1.heap.size w1).drew.trans HBQ1.out).trans (h.mono (by have := HBQ1.out.size; first | exact this | simpa using this))) ?_
    have hHeld : Below wq1.heap.size wq1 wq1 := Below.refl _ _
    refine held_yes (i := 8) (v := ?_) rfl (by kernel_rfl) (by kernel_rfl) (by kernel_rfl) (fun _ _ _ h => h) (by rfl) (fun w hSw => ?_) hHeld ?_
    rotate_left
    · go_simp; try with_reducible rfl
    simp only [List.setIfInBounds_toArray, List.set_cons_zero, List.set_cons_succ]
    refine held_yes (i := 9) (v := ?_) rfl (by kernel_rfl) (by kernel_rfl) (by kernel_rfl) (fun _ _ _ h => h) (by rfl) (fun w hSw => ?_) hHeld ?_
    rotate_left
    · go_simp; try with_reducible rfl
    simp only [List.setIfInBounds_toArray, List.set_cons_zero, List.set_cons_succ]
    refine held_yes (i := 10) (v := ?_) rfl (by kernel_rfl) (by kernel_rfl) (by kernel_rfl) (fun _ _ _ h => h) (by rfl) (fun w hSw => ?_) hHeld ?_
    rotate_left
    · go_simp; try with_reducible rfl
    simp only [List.setIfInBounds_toArray, List.set_cons_zero, List.set_cons_succ]
    refine held_yes (i := 11) (v := ?_) rfl (by kernel_rfl) (by kernel_rfl) (by kernel_rfl) (fun _ _ _ h => h) (by rfl) (fun w hSw => ?_) hHeld ?_
    rotate_left
    · go_simp; try with_reducible rfl
    simp only [List.setIfInBounds_toArray, List.set_cons_zero, List.set_cons_succ]
    refine held_only (i := 12) (by kernel_rfl) rfl (fun K hK => ?_)
    rw [if_pos (by rfl)]
    go_simp
    refine (equal_any A n c xs A n c xs wq1 (HX.out.below (((Below.refl w1.heap.size w1).drew).trans (HBQ1.out.mono ((Below.refl w1.heap.size w1).drew).size))) (HX.out.below (((Below.refl w1.heap.size w1).drew).trans (HBQ1.out.mono ((Below.refl w1.heap.size w1).drew).size)))).mono ?_
    rintro e wq2 ⟨rfl, hb12⟩
    have HBQ2 := Lib.hid hb12
    clear hb12
    rw [show decide (xs = xs) = true by simp]
    go_wp2_with fail
    refine hK.out _ _ HBQ2.out (fun _ => ?_)
    clear hK K
    try simp only [Act.put, List.setIfInBounds_toArray, List.set_cons_zero, List.set_cons_succ]
    refine wpAnyH_mono (S' := fun w' => Below wq2.heap.size wq2 w') (fun w' h => HBQ2.out.trans (h.mono (by have := HBQ2.out.size; first | exact this | simpa using this))) ?_
    have hHeld : Below wq2.heap.size wq2 wq2 := Below.refl _ _
    refine held_yes (i := 13) (v := ?_) rfl (by kernel_rfl) (by kernel_rfl) (by kernel_rfl) (fun _ _ _ h => h) (by rfl) (fun w hSw => ?_) hHeld ?_
    rotate_left
    · go_simp; try with_reducible rfl
    simp only [List.setIfInBounds_toArray, List.set_cons_zero, List.set_cons_succ]
    refine held_yes (i := 14) (v := ?_) rfl (by kernel_rfl) (by kernel_rfl) (by kernel_rfl) (fun _ _ _ h => h) (by rfl) (fun w hSw => ?_) hHeld ?_
    rotate_left
    · go_simp; try with_reducible rfl
    simp only [List.setIfInBounds_toArray, List.set_cons_zero, List.set_cons_succ]
    refine wpAnyH_done (by kernel_rfl) ?_ _
    go_wp2_with fail
    go_ret
    exact ⟨rfl, HB1.out.trans (((((Below.refl w1.heap.size w1).drew).trans (HBQ1.out.mono ((Below.refl w1.heap.size w1).drew).size)).trans (HBQ2.out.mono (((Below.refl w1.heap.size w1).drew).trans (HBQ1.out.mono ((Below.refl w1.heap.size w1).drew).size)).size)).mono HB1.out.size)⟩
theorem open_bytes1 : Opens Try.prog 22 RBytes := opens_bytes Try.underlying22 Try.underlying5 (by kernel_rfl)
theorem MacEqual_walk (w : World) (A : Option Addr) (n c : Nat) (xs : List UInt8) (ha : RBytes w [.slice A n c] xs) (B : Option Addr) (m d : Nat) (ys : List UInt8) (hb : RBytes w [.slice B m d] ys) :
    Calls Try.prog 6 #[.slice A n c, .slice B m d] w (Tells w true) := by
  obtain ⟨A', c', he, hr⟩ := ha
  simp only [List.cons.injEq, Value.slice.injEq, and_true] at he
  obtain ⟨rfl, rfl, rfl⟩ := he
  obtain ⟨B', d', he, hs⟩ := hb
  simp only [List.cons.injEq, Value.slice.injEq, and_true] at he
  obtain ⟨rfl, rfl, rfl⟩ := he
  exact MacEqual_ok w A _ c xs B _ d ys hr hs
end Go.Proofs.Ytdekfobcdmlelaa
