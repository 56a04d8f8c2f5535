/- The walk of locketlaw01.ShaSums. -/
import Derived.Test.YtpcncogmhnncpaaSha8
import Derived.Test.YtpcncogmhnncpaaRefI
namespace Go.Proofs.Ytpcncogmhnncpaa
open Go.RowKit
set_option linter.unusedVariables false
set_option linter.unusedSimpArgs false

set_option maxRecDepth 100000 in
set_option maxHeartbeats 1000000 in
theorem ShaSums_ok (w : World) (A : Option Addr) (n c : Nat) (bs : List UInt8) (hr : Rd w 1 A n c (bvs bs)) (hn : n ≤ 400) :
    Calls Try.prog 8 #[.slice A n c] w (Tells w true) := by
  have hl : bs.length = n := by have := hr.len; rw [bvs_length] at this; omega
  have HLEN : Hid (bs.length ≤ 1099511627776) := Lib.hid (by omega)
  have HR := Lib.hid hr
  clear hr
  have hn' : (n : Int) ≤ 400 := by omega
  go_enter Try.func8, Try.ntmps8
  go_wp2_with fail
  refine (anchor1 w).mono ?_
  rintro e w1 ⟨rfl, hb1⟩
  have HB1 := Lib.hid hb1
  have HRW := Lib.hid (HR.out.below hb1)
  clear hb1
  go_wp2_with fail
  refine wp_region_held_drew (S := fun w' => Below w1.heap.size w1 w') (by kernel_rfl) ((Below.refl _ _).drew) (fun hHeld => ?_)
  refine held_yes (i := 0) (v := ?_) rfl (by kernel_rfl) (by kernel_rfl) (by kernel_rfl) (fun _ _ _ h => h) (by rfl) (fun w hSw => ?_) hHeld ?_
  rotate_left
  · go_simp; try with_reducible rfl
  simp only [List.setIfInBounds_toArray, List.set_cons_zero, List.set_cons_succ]
  refine held_yes (i := 4) (v := ?_) rfl (by kernel_rfl) (by kernel_rfl) (by kernel_rfl) (fun _ _ _ h => h) (by rfl) (fun w hSw => ?_) hHeld ?_
  rotate_left
  · go_simp; try with_reducible rfl
  simp only [List.setIfInBounds_toArray, List.set_cons_zero, List.set_cons_succ]
  refine held_only (i := 1) (by kernel_rfl) rfl (fun K hK => ?_)
  rw [if_pos (by rfl)]
  go_wp2_with fail
  refine world_at (F := fun wx => Below w1.drew.heap.size w1.drew wx ∧ Rd wx 1 (some ⟨w1.drew.heap.size, 0, none⟩) 1 1 [.slice A n c]) ⟨(Below.refl _ _).alloc (Nat.le_refl _) _, rd_lit w1.drew #[.slice A n c] _ 1 1 rfl (by simp [maxLen])⟩ (fun wq1 HF => ?_)
  have HBQ1 := Lib.hid HF.out.1
  have HR1 := Lib.hid HF.out.2
  clear HF
  refine hK.out _ _ ((Below.refl w1.heap.size w1).drew.trans HBQ1.out) (fun _ => ?_)
  clear hK K
  try simp only [Act.put, List.setIfInBounds_toArray, List.set_cons_zero, List.set_cons_succ]
  refine wpAnyH_mono (S' := fun w' => Below wq1.heap.size wq1 w') (fun w' h => ((Below.refl w1.heap.size w1).drew.trans HBQ1.out).trans (h.mono (by have := HBQ1.out.size; first | exact this | simpa using this))) ?_
  have hHeld : Below wq1.heap.size wq1 wq1 := Below.refl _ _
  refine held_only (i := 2) (by kernel_rfl) rfl (fun K hK => ?_)
  rw [if_pos (by rfl)]
  go_simp
  refine (sum_one _ _ _ _ _ _ wq1 (HR1.out.below (Below.refl _ _)) (HRW.out.below (((Below.refl w1.heap.size w1).drew).trans (HBQ1.out.mono ((Below.refl w1.heap.size w1).drew).size))) HLEN.out).mono ?_
  rintro e wq2 ⟨A2, c2, rfl, hs2, hb2⟩
  have HS2 := Lib.hid hs2
  have HBQ2 := Lib.hid hb2
  clear hs2 hb2
  go_wp2_with fail
  refine hK.out _ _ HBQ2.out (fun _ => ?_)
  clear hK K
  try simp only [Act.put, List.setIfInBounds_toArray, List.set_cons_zero, List.set_cons_succ]
  refine wpAnyH_mono (S' := fun w' => Below wq2.heap.size wq2 w') (fun w' h => HBQ2.out.trans (h.mono (by have := HBQ2.out.size; first | exact this | simpa using this))) ?_
  have hHeld : Below wq2.heap.size wq2 wq2 := Below.refl _ _
  refine held_yes (i := 3) (v := ?_) rfl (by kernel_rfl) (by kernel_rfl) (by kernel_rfl) (fun _ _ _ h => h) (by rfl) (fun w hSw => ?_) hHeld ?_
  rotate_left
  · have kc := str_of (HS2.out.rd.below hSw); go_simp; try with_reducible rfl
  simp only [List.setIfInBounds_toArray, List.set_cons_zero, List.set_cons_succ]
  refine held_only (i := 5) (by kernel_rfl) rfl (fun K hK => ?_)
  rw [if_pos (by rfl)]
  go_simp
  refine (rsum_any A n c bs wq2 (HRW.out.below ((((Below.refl w1.heap.size w1).drew).trans (HBQ1.out.mono ((Below.refl w1.heap.size w1).drew).size)).trans (HBQ2.out.mono (((Below.refl w1.heap.size w1).drew).trans (HBQ1.out.mono ((Below.refl w1.heap.size w1).drew).size)).size))) (by omega)).mono ?_
  rintro e wq3 ⟨A5, c5, rfl, hs5, hb5⟩
  have HS5 := Lib.hid hs5
  have HBQ3 := Lib.hid hb5
  clear hs5 hb5
  go_wp2_with fail
  refine hK.out _ _ HBQ3.out (fun _ => ?_)
  clear hK K
  try simp only [Act.put, List.setIfInBounds_toArray, List.set_cons_zero, List.set_cons_succ]
  refine wpAnyH_mono (S' := fun w' => Below wq3.heap.size wq3 w') (fun w' h => HBQ3.out.trans (h.mono (by have := HBQ3.out.size; first | exact this | simpa using this))) ?_
  have hHeld : Below wq3.heap.size wq3 wq3 := Below.refl _ _
  refine held_yes (i := 6) (v := ?_) rfl (by kernel_rfl) (by kernel_rfl) (by kernel_rfl) (fun _ _ _ h => h) (by rfl) (fun w hSw => ?_) hHeld ?_
  rotate_left
  · have kc := str_of (HS5.out.rd.below hSw); go_simp; try with_reducible rfl
  simp only [List.setIfInBounds_toArray, List.set_cons_zero, List.set_cons_succ]
  refine held_yes (i := 7) (v := ?_) rfl (by kernel_rfl) (by kernel_rfl) (by kernel_rfl) (fun _ _ _ h => h) (by rfl) (fun w hSw => ?_) hHeld ?_
  rotate_left
  · go_simp; try with_reducible rfl
  simp only [List.setIfInBounds_toArray, List.set_cons_zero, List.set_cons_succ]
  refine held_yes (i := 8) (v := ?_) rfl (by kernel_rfl) (by kernel_rfl) (by kernel_rfl) (fun _ _ _ h => h) (by rfl) (fun w hSw => ?_) hHeld ?_
  rotate_left
  · go_simp; try with_reducible rfl
  simp only [List.setIfInBounds_toArray, List.set_cons_zero, List.set_cons_succ]
  refine wpAnyH_done (by kernel_rfl) ?_ _
  go_wp2_with fail
  go_ret
  exact ⟨rfl, HB1.out.trans ((((((Below.refl w1.heap.size w1).drew).trans (HBQ1.out.mono ((Below.refl w1.heap.size w1).drew).size)).trans (HBQ2.out.mono (((Below.refl w1.heap.size w1).drew).trans (HBQ1.out.mono ((Below.refl w1.heap.size w1).drew).size)).size)).trans (HBQ3.out.mono ((((Below.refl w1.heap.size w1).drew).trans (HBQ1.out.mono ((Below.refl w1.heap.size w1).drew).size)).trans (HBQ2.out.mono (((Below.refl w1.heap.size w1).drew).trans (HBQ1.out.mono ((Below.refl w1.heap.size w1).drew).size)).size)).size)).mono HB1.out.size)⟩
theorem ShaSums_walk (w : World) (A : Option Addr) (n c : Nat) (bs : List UInt8) (h : RBytes w [.slice A n c] bs) : Calls Try.prog 8 #[.slice A n c] w (Tells w true) := by
  obtain ⟨A', c', he, hr⟩ := h
  simp only [List.cons.injEq, Value.slice.injEq, and_true] at he
  obtain ⟨rfl, rfl, rfl⟩ := he
  have hmax := hr.max
  have hcap := hr.cap
  unfold maxLen at hmax
  by_cases hl : bs.length ≤ 400
  · exact ShaSums_ok w A _ c bs hr hl
  · have hl' : (400 : Int) < (bs.length : Int) := by omega
    clear hr
    go_enter Try.func8, Try.ntmps8
    go_wp2_with fail
    refine (anchor1 w).mono ?_
    rintro e w1 ⟨rfl, hb1⟩
    go_wp2_with fail
    go_ret
    exact ⟨rfl, hb1⟩
end Go.Proofs.Ytpcncogmhnncpaa
