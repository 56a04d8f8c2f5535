/- The walk of locketlaw01.ShaEdges. -/
import Derived.Test.YtpcncogmhnncpaaSha8
import Derived.Test.YtpcncogmhnncpaaRefI
namespace Go.Proofs.Ytpcncogmhnncpaa
open Go.RowKit
set_option linter.unusedVariables false
set_option linter.unusedSimpArgs false

theorem made_bytes (L : Nat) : madeCells #[Value.int .u8 0] (L * 1) = (bvs (List.replicate L 0)).toArray := by
  apply Array.ext
  · simp [madeCells, bvs]
  · intro i h1 h2
    simp [madeCells, bvs, bv, Nat.mod_one]
theorem make_bytes (w : World) (L : Nat) (hL : L ≤ 1000000) : (Instr.makeSlice 23 (.int .i64 L) (.int .i64 L)).run Try.prog w = .ok (.slice (some ⟨w.heap.size, 0, none⟩) L L) (w.alloc (.cells (bvs (List.replicate L 0)).toArray 5)) := by
  obtain ⟨i, hi, hz, hs, hb⟩ := ei_u8.info
  have h := run_make w 23 5 i (.int .u8 0) ei_u8.ht hi hz .i64 .i64 L L (by omega) (by omega) (by rw [hb]; omega) (by omega)
  rw [hs] at h
  simp only [Int.toNat_natCast] at h
  rw [h, ← made_bytes L]
  rfl
/-- A row of bytes of the call's own. -/
structure BRel (w : World) (g : Nat) (bs : List UInt8) (wr : World) : Prop where
  row : wr.heap[g]? = some (.cells (bvs bs).toArray 5 (0, 0))
  below : Below w.heap.size w wr
  base : w.heap.size ≤ g
namespace BRel
variable {w wr : World} {g : Nat} {bs : List UInt8}
theorem get (h : BRel w g bs wr) {j : Nat} (hj : j < bs.length) : wr.cell? ⟨g, j, none⟩ = some (.int .u8 (bs[j].toNat : Int)) ∧ wr.frozen? ⟨g, j, none⟩ = false := by
  refine ⟨?_, by simp [World.frozen?, h.row]⟩
  rw [cell_of_row wr _ _ _ _ _ h.row]
  simp [bvs, bv, hj]
theorem put (h : BRel w g bs wr) (j : Nat) (x : UInt8) : BRel w g (bs.set j x) (wr.setCell ⟨g, j, none⟩ (.int .u8 (x.toNat : Int))) := by
  refine ⟨?_, h.below.setCell h.base _, h.base⟩
  rw [show (bvs (bs.set j x)).toArray = (bvs bs).toArray.setIfInBounds j (.int .u8 (x.toNat : Int)) by simp [bvs, List.map_set, bv]]
  exact heap_setCell_same wr _ _ _ _ _ h.row
theorem rd (h : BRel w g bs wr) {n : Nat} (hn : bs.length = n) (hm : n ≤ maxLen) : Rd wr 1 (some ⟨g, 0, none⟩) n n (bvs bs) :=
  ⟨by rw [bvs_length]; omega, Nat.le_refl _, hm, (fun e => by cases e), .inr ⟨g, 0, rfl, fun j u hu => by rw [cell_of_row wr _ _ _ _ _ h.row, Nat.zero_add]; simpa using hu⟩⟩
end BRel
set_option maxRecDepth 100000 in
set_option maxHeartbeats 1000000 in
theorem ShaEdges_ok (w : World) (n : Nat) (b : UInt8) (hn : n ≤ 200) :
    Calls Try.prog 10 #[.int .i64 (n : Int), .int .u8 (b.toNat : Int)] w (Tells w true) := by
  have hn' : (n : Int) ≤ 200 := by omega
  have hn0 : (0 : Int) ≤ n := by omega
  go_enter Try.func10, Try.ntmps10
  go_wp2_with fail
  refine (anchor1 w).mono ?_
  rintro e w1 ⟨rfl, hb1⟩
  have HB1 := Lib.hid hb1
  clear hb1
  have HMK := make_bytes w1 n (by omega)
  have HR0 : Hid (BRel w1 w1.heap.size (List.replicate n 0) (w1.alloc (.cells (bvs (List.replicate n 0)).toArray 5))) := Lib.hid ⟨heap_alloc_new w1 _, (Below.refl _ _).alloc (Nat.le_refl _) _, Nat.le_refl _⟩
  obtain ⟨x, HX⟩ : ∃ x : Int, Hid (x = (b.toNat : Int)) := ⟨_, Lib.hid rfl⟩
  rw [← HX.out]
  go_wp2_with fail
  obtain ⟨g, HG⟩ : ∃ g, Hid (g = w1.heap.size) := ⟨_, Lib.hid rfl⟩
  rw [← HG.out] at HR0 ⊢
  clear HMK
  go_loopw [19] (fun s19 wr => ∃ (k : Nat) (bs : List UInt8), k ≤ n ∧ s19 = .int .i64 (k : Int) ∧ bs.length = n ∧ BRel w1 g bs wr) (fun s19 _ => n - (intOf s19).toNat)
  case atStart => exact ⟨0, _, by omega, rfl, by simp, HR0.out⟩
  case round =>
    obtain ⟨k, bs, hk, rfl, hbl, hbr⟩ := hrel
    have HBR := Lib.hid hbr
    clear hbr HR0
    by_cases hlt : k < n
    · obtain ⟨c1, f1⟩ := HBR.out.get (j := k) (by omega)
      have HP := Lib.hid (HBR.out.put k b)
      rw [← HX.out] at HP
      go_wp2_with fail
      case roundEnd => exact ⟨⟨k + 1, _, by omega, by push_cast; rfl, by rw [List.length_set]; exact hbl, HP.out⟩, by simp only [intOf]; omega⟩
    · obtain rfl : k = n := by omega
      have HLEN : Hid (bs.length ≤ 1099511627776) := Lib.hid (by omega)
      have HRW := Lib.hid (HBR.out.rd hbl (by simp only [maxLen]; omega))
      go_wp2_with fail
      refine wp_region_held_drew (S := fun w' => Below wr.heap.size wr w') (by kernel_rfl) ((Below.refl _ _).drew) (fun hHeld => ?_)
      refine held_yes (i := 0) (v := ?_) rfl (by kernel_rfl) (by kernel_rfl) (by kernel_rfl) (fun _ _ _ h => h) (by rfl) (fun w hSw => ?_) hHeld ?_
      rotate_left
      · go_simp; try with_reducible rfl
      simp only [List.setIfInBounds_toArray, List.set_cons_zero, List.set_cons_succ]
      refine held_yes (i := 4) (v := ?_) rfl (by kernel_rfl) (by kernel_rfl) (by kernel_rfl) (fun _ _ _ h => h) (by rfl) (fun w hSw => ?_) hHeld ?_
      rotate_left
      · go_simp; try with_reducible rfl
      simp only [List.setIfInBounds_toArray, List.set_cons_zero, List.set_cons_succ]
      refine held_only (i := 1) (by kernel_rfl) rfl (fun K hK => ?_)
      rw [if_pos (by rfl)]
      go_wp2_with fail
      refine world_at (F := fun wx => Below wr.drew.heap.size wr.drew wx ∧ Rd wx 1 (some ⟨wr.drew.heap.size, 0, none⟩) 1 1 [.slice (some ⟨g, 0, none⟩) k k]) ⟨(Below.refl _ _).alloc (Nat.le_refl _) _, rd_lit wr.drew #[.slice (some ⟨g, 0, none⟩) k k] _ 1 1 rfl (by simp [maxLen])⟩ (fun wq1 HF => ?_)
      have HBQ1 := Lib.hid HF.out.1
      have HR1 := Lib.hid HF.out.2
      clear HF
      refine hK.out _ _ ((Below.refl wr.heap.size wr).drew.trans HBQ1.out) (fun _ => ?_)
      clear hK K
      try simp only [Act.put, List.setIfInBounds_toArray, List.set_cons_zero, List.set_cons_succ]
      refine wpAnyH_mono (S' := fun w' => Below wq1.heap.size wq1 w') (fun w' h => ((Below.refl wr.heap.size wr).drew.trans HBQ1.out).trans (h.mono (by have := HBQ1.out.size; first | exact this | simpa using this))) ?_
      have hHeld : Below wq1.heap.size wq1 wq1 := Below.refl _ _
      refine held_only (i := 2) (by kernel_rfl) rfl (fun K hK => ?_)
      rw [if_pos (by rfl)]
      go_simp
      refine (sum_one _ _ _ _ _ _ wq1 (HR1.out.below (Below.refl _ _)) (HRW.out.below (((Below.refl wr.heap.size wr).drew).trans (HBQ1.out.mono ((Below.refl wr.heap.size wr).drew).size))) HLEN.out).mono ?_
      rintro e wq2 ⟨A2, c2, rfl, hs2, hb2⟩
      have HS2 := Lib.hid hs2
      have HBQ2 := Lib.hid hb2
      clear hs2 hb2
      go_wp2_with fail
      refine hK.out _ _ HBQ2.out (fun _ => ?_)
      clear hK K
      try simp only [Act.put, List.setIfInBounds_toArray, List.set_cons_zero, List.set_cons_succ]
      refine wpAnyH_mono (S' := fun w' => Below wq2.heap.size wq2 w') (fun w' h => HBQ2.out.trans (h.mono (by have := HBQ2.out.size; first | exact this | simpa using this))) ?_
      have hHeld : Below wq2.heap.size wq2 wq2 := Below.refl _ _
      refine held_yes (i := 3) (v := ?_) rfl (by kernel_rfl) (by kernel_rfl) (by kernel_rfl) (fun _ _ _ h => h) (by rfl) (fun w hSw => ?_) hHeld ?_
      rotate_left
      · have kc := str_of (HS2.out.rd.below hSw); go_simp; try with_reducible rfl
      simp only [List.setIfInBounds_toArray, List.set_cons_zero, List.set_cons_succ]
      refine held_only (i := 5) (by kernel_rfl) rfl (fun K hK => ?_)
      rw [if_pos (by rfl)]
      go_simp
      refine (rsum_any _ k k bs wq2 (HRW.out.below ((((Below.refl wr.heap.size wr).drew).trans (HBQ1.out.mono ((Below.refl wr.heap.size wr).drew).size)).trans (HBQ2.out.mono (((Below.refl wr.heap.size wr).drew).trans (HBQ1.out.mono ((Below.refl wr.heap.size wr).drew).size)).size))) (by omega)).mono ?_
      rintro e wq3 ⟨A5, c5, rfl, hs5, hb5⟩
      have HS5 := Lib.hid hs5
      have HBQ3 := Lib.hid hb5
      clear hs5 hb5
      go_wp2_with fail
      refine hK.out _ _ HBQ3.out (fun _ => ?_)
      clear hK K
      try simp only [Act.put, List.setIfInBounds_toArray, List.set_cons_zero, List.set_cons_succ]
      refine wpAnyH_mono (S' := fun w' => Below wq3.heap.size wq3 w') (fun w' h => HBQ3.out.trans (h.mono (by have := HBQ3.out.size; first | exact this | simpa using this))) ?_
      have hHeld : Below wq3.heap.size wq3 wq3 := Below.refl _ _
      refine held_yes (i := 6) (v := ?_) rfl (by kernel_rfl) (by kernel_rfl) (by kernel_rfl) (fun _ _ _ h => h) (by rfl) (fun w hSw => ?_) hHeld ?_
      rotate_left
      · have kc := str_of (HS5.out.rd.below hSw); go_simp; try with_reducible rfl
      simp only [List.setIfInBounds_toArray, List.set_cons_zero, List.set_cons_succ]
      refine held_yes (i := 7) (v := ?_) rfl (by kernel_rfl) (by kernel_rfl) (by kernel_rfl) (fun _ _ _ h => h) (by rfl) (fun w hSw => ?_) hHeld ?_
      rotate_left
      · go_simp; try with_reducible rfl
      simp only [List.setIfInBounds_toArray, List.set_cons_zero, List.set_cons_succ]
      refine held_yes (i := 8) (v := ?_) rfl (by kernel_rfl) (by kernel_rfl) (by kernel_rfl) (fun _ _ _ h => h) (by rfl) (fun w hSw => ?_) hHeld ?_
      rotate_left
      · go_simp; try with_reducible rfl
      simp only [List.setIfInBounds_toArray, List.set_cons_zero, List.set_cons_succ]
      refine held_yes (i := 9) (v := ?_) rfl (by kernel_rfl) (by kernel_rfl) (by kernel_rfl) (fun _ _ _ h => h) (by rfl) (fun w hSw => ?_) hHeld ?_
      rotate_left
      · go_simp; try with_reducible rfl
      simp only [List.setIfInBounds_toArray, List.set_cons_zero, List.set_cons_succ]
      refine held_only (i := 10) (by kernel_rfl) rfl (fun K hK => ?_)
      rw [if_pos (by rfl)]
      go_wp2_with fail
      refine world_at (F := fun wx => Below wq3.heap.size wq3 wx ∧ Rd wx 1 (some ⟨wq3.heap.size, 0, none⟩) 1 1 [.slice (some ⟨g, 0, none⟩) k k]) ⟨(Below.refl _ _).alloc (Nat.le_refl _) _, rd_lit wq3 #[.slice (some ⟨g, 0, none⟩) k k] _ 1 1 rfl (by simp [maxLen])⟩ (fun wq4 HF => ?_)
      have HBQ4 := Lib.hid HF.out.1
      have HR10 := Lib.hid HF.out.2
      clear HF
      refine hK.out _ _ HBQ4.out (fun _ => ?_)
      clear hK K
      try simp only [Act.put, List.setIfInBounds_toArray, List.set_cons_zero, List.set_cons_succ]
      refine wpAnyH_mono (S' := fun w' => Below wq4.heap.size wq4 w') (fun w' h => HBQ4.out.trans (h.mono (by have := HBQ4.out.size; first | exact this | simpa using this))) ?_
      have hHeld : Below wq4.heap.size wq4 wq4 := Below.refl _ _
      refine held_only (i := 11) (by kernel_rfl) rfl (fun K hK => ?_)
      rw [if_pos (by rfl)]
      go_simp
      refine (sum_one _ _ _ _ _ _ wq4 (HR10.out.below (Below.refl _ _)) (HRW.out.below ((((((Below.refl wr.heap.size wr).drew).trans (HBQ1.out.mono ((Below.refl wr.heap.size wr).drew).size)).trans (HBQ2.out.mono (((Below.refl wr.heap.size wr).drew).trans (HBQ1.out.mono ((Below.refl wr.heap.size wr).drew).size)).size)).trans (HBQ3.out.mono ((((Below.refl wr.heap.size wr).drew).trans (HBQ1.out.mono ((Below.refl wr.heap.size wr).drew).size)).trans (HBQ2.out.mono (((Below.refl wr.heap.size wr).drew).trans (HBQ1.out.mono ((Below.refl wr.heap.size wr).drew).size)).size)).size)).trans (HBQ4.out.mono (((((Below.refl wr.heap.size wr).drew).trans (HBQ1.out.mono ((Below.refl wr.heap.size wr).drew).size)).trans (HBQ2.out.mono (((Below.refl wr.heap.size wr).drew).trans (HBQ1.out.mono ((Below.refl wr.heap.size wr).drew).size)).size)).trans (HBQ3.out.mono ((((Below.refl wr.heap.size wr).drew).trans (HBQ1.out.mono ((Below.refl wr.heap.size wr).drew).size)).trans (HBQ2.out.mono (((Below.refl wr.heap.size wr).drew).trans (HBQ1.out.mono ((Below.refl wr.heap.size wr).drew).size)).size)).size)).size))) HLEN.out).mono ?_
      rintro e wq5 ⟨A11, c11, rfl, hs11, hb11⟩
      have HS11 := Lib.hid hs11
      have HBQ5 := Lib.hid hb11
      clear hs11 hb11
      go_wp2_with fail
      refine hK.out _ _ HBQ5.out (fun _ => ?_)
      clear hK K
      try simp only [Act.put, List.setIfInBounds_toArray, List.set_cons_zero, List.set_cons_succ]
      refine wpAnyH_mono (S' := fun w' => Below wq5.heap.size wq5 w') (fun w' h => HBQ5.out.trans (h.mono (by have := HBQ5.out.size; first | exact this | simpa using this))) ?_
      have hHeld : Below wq5.heap.size wq5 wq5 := Below.refl _ _
      refine held_yes (i := 12) (v := ?_) rfl (by kernel_rfl) (by kernel_rfl) (by kernel_rfl) (fun _ _ _ h => h) (by rfl) (fun w hSw => ?_) hHeld ?_
      rotate_left
      · go_simp; try with_reducible rfl
      simp only [List.setIfInBounds_toArray, List.set_cons_zero, List.set_cons_succ]
      refine held_yes (i := 13) (v := ?_) rfl (by kernel_rfl) (by kernel_rfl) (by kernel_rfl) (fun _ _ _ h => h) (by rfl) (fun w hSw => ?_) hHeld ?_
      rotate_left
      · go_simp; try with_reducible rfl
      simp only [List.setIfInBounds_toArray, List.set_cons_zero, List.set_cons_succ]
      refine held_yes (i := 14) (v := ?_) rfl (by kernel_rfl) (by kernel_rfl) (by kernel_rfl) (fun _ _ _ h => h) (by rfl) (fun w hSw => ?_) hHeld ?_
      rotate_left
      · go_simp; try with_reducible rfl
      simp only [List.setIfInBounds_toArray, List.set_cons_zero, List.set_cons_succ]
      refine held_yes (i := 15) (v := ?_) rfl (by kernel_rfl) (by kernel_rfl) (by kernel_rfl) (fun _ _ _ h => h) (by rfl) (fun w hSw => ?_) hHeld ?_
      rotate_left
      · go_simp; try with_reducible rfl
      simp only [List.setIfInBounds_toArray, List.set_cons_zero, List.set_cons_succ]
      refine wpAnyH_done (by kernel_rfl) ?_ _
      go_wp2_with fail
      go_ret
      exact ⟨rfl, HB1.out.trans ((HBR.out.below.trans ((((((((Below.refl wr.heap.size wr).drew).trans (HBQ1.out.mono ((Below.refl wr.heap.size wr).drew).size)).trans (HBQ2.out.mono (((Below.refl wr.heap.size wr).drew).trans (HBQ1.out.mono ((Below.refl wr.heap.size wr).drew).size)).size)).trans (HBQ3.out.mono ((((Below.refl wr.heap.size wr).drew).trans (HBQ1.out.mono ((Below.refl wr.heap.size wr).drew).size)).trans (HBQ2.out.mono (((Below.refl wr.heap.size wr).drew).trans (HBQ1.out.mono ((Below.refl wr.heap.size wr).drew).size)).size)).size)).trans (HBQ4.out.mono (((((Below.refl wr.heap.size wr).drew).trans (HBQ1.out.mono ((Below.refl wr.heap.size wr).drew).size)).trans (HBQ2.out.mono (((Below.refl wr.heap.size wr).drew).trans (HBQ1.out.mono ((Below.refl wr.heap.size wr).drew).size)).size)).trans (HBQ3.out.mono ((((Below.refl wr.heap.size wr).drew).trans (HBQ1.out.mono ((Below.refl wr.heap.size wr).drew).size)).trans (HBQ2.out.mono (((Below.refl wr.heap.size wr).drew).trans (HBQ1.out.mono ((Below.refl wr.heap.size wr).drew).size)).size)).size)).size)).trans (HBQ5.out.mono ((((((Below.refl wr.heap.size wr).drew).trans (HBQ1.out.mono ((Below.refl wr.heap.size wr).drew).size)).trans (HBQ2.out.mono (((Below.refl wr.heap.size wr).drew).trans (HBQ1.out.mono ((Below.refl wr.heap.size wr).drew).size)).size)).trans (HBQ3.out.mono ((((Below.refl wr.heap.size wr).drew).trans (HBQ1.out.mono ((Below.refl wr.heap.size wr).drew).size)).trans (HBQ2.out.mono (((Below.refl wr.heap.size wr).drew).trans (HBQ1.out.mono ((Below.refl wr.heap.size wr).drew).size)).size)).size)).trans (HBQ4.out.mono (((((Below.refl wr.heap.size wr).drew).trans (HBQ1.out.mono ((Below.refl wr.heap.size wr).drew).size)).trans (HBQ2.out.mono (((Below.refl wr.heap.size wr).drew).trans (HBQ1.out.mono ((Below.refl wr.heap.size wr).drew).size)).size)).trans (HBQ3.out.mono ((((Below.refl wr.heap.size wr).drew).trans (HBQ1.out.mono ((Below.refl wr.heap.size wr).drew).size)).trans (HBQ2.out.mono (((Below.refl wr.heap.size wr).drew).trans (HBQ1.out.mono ((Below.refl wr.heap.size wr).drew).size)).size)).size)).size)).size)).mono HBR.out.below.size)).mono HB1.out.size)⟩
theorem ShaEdges_walk (w : World) (n : Int) (hn : (Lit.int .i64 n).wf = true) (x : Int) (hx : (Lit.int .u8 x).wf = true) : Calls Try.prog 10 #[.int .i64 n, .int .u8 x] w (Tells w true) := by
  have hb : 0 ≤ x ∧ x < 256 := by
    have h1 : IntKind.u8.min = 0 := by decide
    have h2 : IntKind.u8.max = 255 := by decide
    simp [Lit.wf, h1, h2] at hx
    omega
  by_cases h : 0 ≤ n ∧ n ≤ 200
  · have hx' : x = ((UInt8.ofNat x.toNat).toNat : Int) := by simp; omega
    rw [hx', show n = ((n.toNat : Nat) : Int) by omega]
    exact ShaEdges_ok w n.toNat _ (by omega)
  · have hd : (decide (n < 0) || decide (200 < n)) = true := by simp; omega
    by_cases h0 : n < 0
    · go_enter Try.func10, Try.ntmps10
      go_wp2_with fail
      refine (anchor1 w).mono ?_
      rintro e w1 ⟨rfl, hb1⟩
      go_wp2_with fail
      go_ret
      exact ⟨rfl, hb1⟩
    · have h1 : 0 ≤ n := by omega
      have h2 : 200 < n := by omega
      go_enter Try.func10, Try.ntmps10
      go_wp2_with fail
      refine (anchor1 w).mono ?_
      rintro e w1 ⟨rfl, hb1⟩
      go_wp2_with fail
      go_ret
      exact ⟨rfl, hb1⟩
end Go.Proofs.Ytpcncogmhnncpaa
