/- The walk of locketlaw01.ShaOwn. -/
import Derived.Test.YtpcncogmhnncpaaSha9b
namespace Go.Proofs.Ytpcncogmhnncpaa
open Go.RowKit
set_option linter.unusedSimpArgs false

set_option maxRecDepth 100000 in
set_option maxHeartbeats 2000000 in
theorem ShaOwn_ok (w : World) (Aa : Option Addr) (na ca : Nat) (xs : List UInt8) (Ab : Option Addr) (nb cb : Nat) (bs : List UInt8) (hra : Rd w 1 Aa na ca (bvs xs)) (hrb : Rd w 1 Ab nb cb (bvs bs)) (hna : na ≤ 300) (hnb : nb ≤ 300) :
    Calls Try.prog 11 #[.slice Aa na ca, .slice Ab nb cb] w (Tells w true) := by
  have HRA := Lib.hid hra
  have HRB := Lib.hid hrb
  have HLA0 : Hid (xs.length = na) := Lib.hid (by have := hra.len; rw [bvs_length] at this; omega)
  have HLB0 : Hid (bs.length = nb) := Lib.hid (by have := hrb.len; rw [bvs_length] at this; omega)
  have HLA : Hid (xs.length ≤ 1099511627776) := Lib.hid (by have := HLA0.out; omega)
  have HLB : Hid (bs.length ≤ 1099511627776) := Lib.hid (by have := HLB0.out; omega)
  clear hra hrb
  have hna' : (na : Int) ≤ 300 := by omega
  have hnb' : (nb : Int) ≤ 300 := by omega
  go_enter Try.func11, Try.ntmps11
  go_wp2_with fail
  refine (anchor1 w).mono ?_
  rintro e w1 ⟨rfl, hb1⟩
  have HB1 := Lib.hid hb1
  clear hb1
  go_wp2_with fail
  refine (new_any w1).mono ?_
  rintro e w2 ⟨rfl, hw2⟩
  have HW2 := Lib.hid hw2
  clear hw2
  go_wp2_with fail
  refine (new_any w2).mono ?_
  rintro e w3 ⟨rfl, hw3⟩
  have HT0 : Hid (Two w1 w1.heap.size (w1.heap.size + 1) none none [] [] w3) := Lib.hid (by rw [hw3, HW2.out]; exact Two.new w1)
  have hz2 : w2.heap.size = w1.heap.size + 1 := by rw [HW2.out]; simp
  have HZ3 : Hid (w3.heap.size = w1.heap.size + 2) := Lib.hid (by rw [hw3, HW2.out]; simp)
  rw [hz2]
  clear hw3 hz2
  have HBW3 := Lib.hid (HB1.out.trans (HT0.out.below.mono HB1.out.size))
  go_wp2_with (at_builtin; refine wpList_append_seg rfl _ _ _ _ rfl ei_u8 rfl (seg_empty w3 5) rfl (((HRA.out.below HBW3.out).below ((Below.refl _ _).alloc (Nat.le_refl _) _)).src Try.underlying23 (bvs_one _)) (by simp [maxLen]; omega) (by simp; omega) (by simp) ?_; intro A4 c4 w4 hs4 hg4 _; rw [Nat.zero_add, show bvs [] ++ bvs xs = bvs xs from rfl] at hs4; have HB4 := Lib.hid (((Below.refl w3.heap.size w3).alloc (Nat.le_refl _) (.cells #[] 5)).grown hg4 (by simp) (fun k hk => by cases hk; exact Nat.le_refl _)); have HS4 := Lib.hid hs4; clear hs4 hg4; have HT4 := Lib.hid (HT0.out.below' HB4.out); have HWG := Lib.hid (write_live w1.heap.size none [] xs A4 na c4 w4 HT4.out.live1 HS4.out.rd (fun _ a ha e => by have := HS4.out.base_le a ha; have := HZ3.out; omega) (by have := HLA.out; simpa using this)))
  refine HWG.out.mono ?_
  rintro e w5 ⟨rfl, A5, hl5, ht5, ha5⟩
  have HT5 := Lib.hid (HT4.out.wrote hl5 ht5 ha5)
  have HS5 : Hid (Seg w5 w3.heap.size 1 A4 na c4 (bvs xs)) := Lib.hid (HS4.out.touch ht5 (fun a ha ho => by
    have := HS4.out.base_le a ha
    have := HZ3.out
    rcases ho with e | ⟨b, hb, _⟩
    · omega
    · cases hb))
  have HA5 : Hid (∀ a b, A5 = some a → A4 = some b → a.block ≠ b.block) := Lib.hid (fun a b e1 e2 e => by
    rcases ha5 a e1 with ⟨a0, h0, _⟩ | h1
    · cases h0
    · have := HS4.out.lt b e2; omega)
  rw [List.nil_append] at HT5
  clear hl5 ht5 ha5 HWG HT4 HS4
  go_wp2_with fail
  go_loopw [8, 31] (fun _ i wr => FlipRel w5 A4 na i wr) (fun _ i _ => na - (intOf i).toNat)
  case atStart => exact FlipRel.start _ _ _
  case round =>
    obtain ⟨ka, hk, rfl, hrel⟩ := hrel
    have HREL := Lib.hid hrel
    clear hrel
    by_cases hlt : ka < na
    · obtain ⟨g, o, y, rfl, hcell, hfr, hnext⟩ := FlipRel.round HS5.out hlt HREL.out
      have HN := Lib.hid hnext
      clear hnext
      unfold bv at hcell
      go_wp2_with fail
      go_roundw
      case rel => exact HN.out _
      case measure => simp [intOf]; omega
    · have HGR := Lib.hid (FlipRel.grown HREL.out)
      obtain rfl : ka = na := by omega
      clear HREL
      have HAB : Hid (∀ a, A4.map (·.block) = some a → w1.heap.size + 2 ≤ a) := Lib.hid (fun a ha => by
        cases A4 with
        | none => cases ha
        | some b => have := HS5.out.base_le b rfl; have := HZ3.out; simp at ha; omega)
      have HT6 := Lib.hid (HT5.out.kept (S := fun i => A4.map (·.block) = some i) (Touch.of_grown HGR.out (fun r hr _ => hr)) (fun j hj => by have := HAB.out j hj; omega) (fun hj => by have := HAB.out _ hj; omega) (fun hj => by have := HAB.out _ hj; omega) (fun a ha e => by
        cases A4 with
        | none => cases e
        | some b => simp at e; exact HA5.out a b ha rfl e.symm) (fun a ha => by cases ha))
      have HBW6 := Lib.hid (HB1.out.trans (HT6.out.below.mono HB1.out.size))
      have HWH := Lib.hid (write_live (w1.heap.size + 1) none [] bs Ab nb cb wr HT6.out.live2 (HRB.out.below HBW6.out) (fun h0 a ha e => by have := HRB.out.lt h0 (by decide) a ha; have := HB1.out.size; omega) (by have := HLB.out; simpa using this))
      rw [List.nil_append] at HWH
      clear HT5 HS5 HA5 HGR HAB
      go_wp2_with fail
      refine HWH.out.mono ?_
      rintro e w7 ⟨rfl, A7, hl7, ht7, ha7⟩
      have HT7 := Lib.hid (HT6.out.swap.wrote hl7 ht7 ha7).swap
      clear hl7 ht7 ha7 HWH HT6
      have HSU := Lib.hid (hsum_live w1.heap.size A5 xs w7 HT7.out.live1 HLA.out)
      go_wp2_with fail
      refine HSU.out.mono ?_
      rintro e w8 ⟨A8, c8, rfl, hs8, hb8⟩
      have HS8 := Lib.hid hs8
      have HB8 := Lib.hid hb8
      clear hs8 hb8 HSU
      go_wp2_with fail
      go_loopw [10, 48] (fun _ i wr => FlipRel w8 A8 32 i wr) (fun _ i _ => 32 - (intOf i).toNat)
      case atStart => exact FlipRel.start _ _ _
      case round =>
        obtain ⟨k, hk, rfl, hrel⟩ := hrel
        have HREL := Lib.hid hrel
        clear hrel
        by_cases hlt : k < 32
        · obtain ⟨g, o, y, rfl, hcell, hfr, hnext⟩ := FlipRel.round HS8.out hlt HREL.out
          have HN := Lib.hid hnext
          clear hnext
          unfold bv at hcell
          go_wp2_with fail
          go_roundw
          case rel => exact HN.out _
          case measure => simp [intOf]; omega
        · have HGR := Lib.hid (FlipRel.grown HREL.out)
          obtain rfl : k = 32 := by omega
          clear HREL
          have HT9 := Lib.hid (HT7.out.below' (HB8.out.grown HGR.out HB8.out.size (fun k hk => by have := own_base HS8.out hk; omega)))
          have HBX := Lib.hid (HB1.out.trans (HT9.out.below.mono HB1.out.size))
          have HRA9 := Lib.hid (HRA.out.below HBX.out)
          have HRB9 := Lib.hid (HRB.out.below HBX.out)
          clear HT7 HS8 HB8 HGR
          go_wp2_with fail
          refine wp_region_held_drew (S := fun w' => Below wr.heap.size wr w') (by kernel_rfl) ((Below.refl _ _).drew) (fun hHeld => ?_)
          refine held_yes (i := 0) (v := ?_) rfl (by kernel_rfl) (by kernel_rfl) (by kernel_rfl) (fun _ _ _ h => h) (by rfl) (fun w hSw => ?_) hHeld ?_
          rotate_left
          · go_simp; try with_reducible rfl
          simp only [List.setIfInBounds_toArray, List.set_cons_zero, List.set_cons_succ]
          refine held_yes (i := 3) (v := ?_) rfl (by kernel_rfl) (by kernel_rfl) (by kernel_rfl) (fun _ _ _ h => h) (by rfl) (fun w hSw => ?_) hHeld ?_
          rotate_left
          · go_simp; try with_reducible rfl
          simp only [List.setIfInBounds_toArray, List.set_cons_zero, List.set_cons_succ]
          refine wpAnyH_ready (rs := [1, 4]) (by kernel_rfl) (by simp) (AllReadyH.cons rfl (fun K hK => ?_) (AllReadyH.cons rfl (fun K hK => ?_) AllReadyH.nil))
          · skip
            rw [if_pos (by rfl)]
            go_simp
            refine (hsum_live w1.heap.size A5 _ wr.drew (HT9.out.live1.below ((Below.refl wr.heap.size wr).drew)) HLA.out).mono ?_
            rintro e wq1 ⟨A1, c1, rfl, hs1, hb1⟩
            have HS1 := Lib.hid hs1
            have HBQ1 := Lib.hid hb1
            clear hs1 hb1
            go_wp2_with fail
            refine hK.out _ _ ((Below.refl wr.heap.size wr).drew.trans HBQ1.out) (fun _ => ?_)
            clear hK K
            try simp only [Act.put, List.setIfInBounds_toArray, List.set_cons_zero, List.set_cons_succ]
            refine wpAnyH_mono (S' := fun w' => Below wq1.heap.size wq1 w') (fun w' h => ((Below.refl wr.heap.size wr).drew.trans HBQ1.out).trans (h.mono (by have := HBQ1.out.size; first | exact this | simpa using this))) ?_
            have hHeld : Below wq1.heap.size wq1 wq1 := Below.refl _ _
            refine held_yes (i := 2) (v := ?_) rfl (by kernel_rfl) (by kernel_rfl) (by kernel_rfl) (fun _ _ _ h => h) (by rfl) (fun w hSw => ?_) hHeld ?_
            rotate_left
            · have kc := str_of (HS1.out.rd.below hSw); go_simp; try with_reducible rfl
            simp only [List.setIfInBounds_toArray, List.set_cons_zero, List.set_cons_succ]
            refine held_only (i := 4) (by kernel_rfl) rfl (fun K hK => ?_)
            rw [if_pos (by rfl)]
            go_wp2_with fail
            refine world_at (F := fun wx => Below wq1.heap.size wq1 wx ∧ Rd wx 1 (some ⟨wq1.heap.size, 0, none⟩) 1 1 [.slice Aa ka ca]) ⟨(Below.refl _ _).alloc (Nat.le_refl _) _, rd_lit wq1 #[.slice Aa ka ca] _ 1 1 rfl (by simp [maxLen])⟩ (fun wq2 HF => ?_)
            have HBQ2 := Lib.hid HF.out.1
            have HR4 := Lib.hid HF.out.2
            clear HF
            refine hK.out _ _ HBQ2.out (fun _ => ?_)
            clear hK K
            try simp only [Act.put, List.setIfInBounds_toArray, List.set_cons_zero, List.set_cons_succ]
            refine wpAnyH_mono (S' := fun w' => Below wq2.heap.size wq2 w') (fun w' h => HBQ2.out.trans (h.mono (by have := HBQ2.out.size; first | exact this | simpa using this))) ?_
            have hHeld : Below wq2.heap.size wq2 wq2 := Below.refl _ _
            refine held_only (i := 5) (by kernel_rfl) rfl (fun K hK => ?_)
            rw [if_pos (by rfl)]
            go_simp
            refine (sum_one _ _ _ _ _ _ wq2 (HR4.out.below (Below.refl _ _)) (HRA9.out.below ((((Below.refl wr.heap.size wr).drew).trans (HBQ1.out.mono ((Below.refl wr.heap.size wr).drew).size)).trans (HBQ2.out.mono (((Below.refl wr.heap.size wr).drew).trans (HBQ1.out.mono ((Below.refl wr.heap.size wr).drew).size)).size))) HLA.out).mono ?_
            rintro e wq3 ⟨A5, c5, rfl, hs5, hb5⟩
            have HS5 := Lib.hid hs5
            have HBQ3 := Lib.hid hb5
            clear hs5 hb5
            go_wp2_with fail
            refine hK.out _ _ HBQ3.out (fun _ => ?_)
            clear hK K
            try simp only [Act.put, List.setIfInBounds_toArray, List.set_cons_zero, List.set_cons_succ]
            refine wpAnyH_mono (S' := fun w' => Below wq3.heap.size wq3 w') (fun w' h => HBQ3.out.trans (h.mono (by have := HBQ3.out.size; first | exact this | simpa using this))) ?_
            have hHeld : Below wq3.heap.size wq3 wq3 := Below.refl _ _
            refine held_yes (i := 6) (v := ?_) rfl (by kernel_rfl) (by kernel_rfl) (by kernel_rfl) (fun _ _ _ h => h) (by rfl) (fun w hSw => ?_) hHeld ?_
            rotate_left
            · have kc := str_of (HS5.out.rd.below hSw); go_simp; try with_reducible rfl
            simp only [List.setIfInBounds_toArray, List.set_cons_zero, List.set_cons_succ]
            refine held_yes (i := 7) (v := ?_) rfl (by kernel_rfl) (by kernel_rfl) (by kernel_rfl) (fun _ _ _ h => h) (by rfl) (fun w hSw => ?_) hHeld ?_
            rotate_left
            · go_simp; try with_reducible rfl
            simp only [List.setIfInBounds_toArray, List.set_cons_zero, List.set_cons_succ]
            refine held_yes (i := 8) (v := ?_) rfl (by kernel_rfl) (by kernel_rfl) (by kernel_rfl) (fun _ _ _ h => h) (by rfl) (fun w hSw => ?_) hHeld ?_
            rotate_left
            · go_simp; try with_reducible rfl
            simp only [List.setIfInBounds_toArray, List.set_cons_zero, List.set_cons_succ]
            refine held_yes (i := 9) (v := ?_) rfl (by kernel_rfl) (by kernel_rfl) (by kernel_rfl) (fun _ _ _ h => h) (by rfl) (fun w hSw => ?_) hHeld ?_
            rotate_left
            · go_simp; try with_reducible rfl
            simp only [List.setIfInBounds_toArray, List.set_cons_zero, List.set_cons_succ]
            refine held_yes (i := 12) (v := ?_) rfl (by kernel_rfl) (by kernel_rfl) (by kernel_rfl) (fun _ _ _ h => h) (by rfl) (fun w hSw => ?_) hHeld ?_
            rotate_left
            · go_simp; try with_reducible rfl
            simp only [List.setIfInBounds_toArray, List.set_cons_zero, List.set_cons_succ]
            refine wpAnyH_ready (rs := [10, 13]) (by kernel_rfl) (by simp) (AllReadyH.cons rfl (fun K hK => ?_) (AllReadyH.cons rfl (fun K hK => ?_) AllReadyH.nil))
            · skip
              rw [if_pos (by rfl)]
              go_simp
              refine (hsum_live (w1.heap.size + 1) A7 _ wq3 (HT9.out.live2.below (((((Below.refl wr.heap.size wr).drew).trans (HBQ1.out.mono ((Below.refl wr.heap.size wr).drew).size)).trans (HBQ2.out.mono (((Below.refl wr.heap.size wr).drew).trans (HBQ1.out.mono ((Below.refl wr.heap.size wr).drew).size)).size)).trans (HBQ3.out.mono ((((Below.refl wr.heap.size wr).drew).trans (HBQ1.out.mono ((Below.refl wr.heap.size wr).drew).size)).trans (HBQ2.out.mono (((Below.refl wr.heap.size wr).drew).trans (HBQ1.out.mono ((Below.refl wr.heap.size wr).drew).size)).size)).size))) HLB.out).mono ?_
              rintro e wq4 ⟨A10, c10, rfl, hs10, hb10⟩
              have HS10 := Lib.hid hs10
              have HBQ4 := Lib.hid hb10
              clear hs10 hb10
              go_wp2_with fail
              refine hK.out _ _ HBQ4.out (fun _ => ?_)
              clear hK K
              try simp only [Act.put, List.setIfInBounds_toArray, List.set_cons_zero, List.set_cons_succ]
              refine wpAnyH_mono (S' := fun w' => Below wq4.heap.size wq4 w') (fun w' h => HBQ4.out.trans (h.mono (by have := HBQ4.out.size; first | exact this | simpa using this))) ?_
              have hHeld : Below wq4.heap.size wq4 wq4 := Below.refl _ _
              refine held_yes (i := 11) (v := ?_) rfl (by kernel_rfl) (by kernel_rfl) (by kernel_rfl) (fun _ _ _ h => h) (by rfl) (fun w hSw => ?_) hHeld ?_
              rotate_left
              · have kc := str_of (HS10.out.rd.below hSw); go_simp; try with_reducible rfl
              simp only [List.setIfInBounds_toArray, List.set_cons_zero, List.set_cons_succ]
              refine held_only (i := 13) (by kernel_rfl) rfl (fun K hK => ?_)
              rw [if_pos (by rfl)]
              go_wp2_with fail
              refine world_at (F := fun wx => Below wq4.heap.size wq4 wx ∧ Rd wx 1 (some ⟨wq4.heap.size, 0, none⟩) 1 1 [.slice Ab nb cb]) ⟨(Below.refl _ _).alloc (Nat.le_refl _) _, rd_lit wq4 #[.slice Ab nb cb] _ 1 1 rfl (by simp [maxLen])⟩ (fun wq5 HF => ?_)
              have HBQ5 := Lib.hid HF.out.1
              have HR13 := Lib.hid HF.out.2
              clear HF
              refine hK.out _ _ HBQ5.out (fun _ => ?_)
              clear hK K
              try simp only [Act.put, List.setIfInBounds_toArray, List.set_cons_zero, List.set_cons_succ]
              refine wpAnyH_mono (S' := fun w' => Below wq5.heap.size wq5 w') (fun w' h => HBQ5.out.trans (h.mono (by have := HBQ5.out.size; first | exact this | simpa using this))) ?_
              have hHeld : Below wq5.heap.size wq5 wq5 := Below.refl _ _
              refine held_only (i := 14) (by kernel_rfl) rfl (fun K hK => ?_)
              rw [if_pos (by rfl)]
              go_simp
              refine (sum_one _ _ _ _ _ _ wq5 (HR13.out.below (Below.refl _ _)) (HRB9.out.below (((((((Below.refl wr.heap.size wr).drew).trans (HBQ1.out.mono ((Below.refl wr.heap.size wr).drew).size)).trans (HBQ2.out.mono (((Below.refl wr.heap.size wr).drew).trans (HBQ1.out.mono ((Below.refl wr.heap.size wr).drew).size)).size)).trans (HBQ3.out.mono ((((Below.refl wr.heap.size wr).drew).trans (HBQ1.out.mono ((Below.refl wr.heap.size wr).drew).size)).trans (HBQ2.out.mono (((Below.refl wr.heap.size wr).drew).trans (HBQ1.out.mono ((Below.refl wr.heap.size wr).drew).size)).size)).size)).trans (HBQ4.out.mono (((((Below.refl wr.heap.size wr).drew).trans (HBQ1.out.mono ((Below.refl wr.heap.size wr).drew).size)).trans (HBQ2.out.mono (((Below.refl wr.heap.size wr).drew).trans (HBQ1.out.mono ((Below.refl wr.heap.size wr).drew).size)).size)).trans (HBQ3.out.mono ((((Below.refl wr.heap.size wr).drew).trans (HBQ1.out.mono ((Below.refl wr.heap.size wr).drew).size)).trans (HBQ2.out.mono (((Below.refl wr.heap.size wr).drew).trans (HBQ1.out.mono ((Below.refl wr.heap.size wr).drew).size)).size)).size)).size)).trans (HBQ5.out.mono ((((((Below.refl wr.heap.size wr).drew).trans (HBQ1.out.mono ((Below.refl wr.heap.size wr).drew).size)).trans (HBQ2.out.mono (((Below.refl wr.heap.size wr).drew).trans (HBQ1.out.mono ((Below.refl wr.heap.size wr).drew).size)).size)).trans (HBQ3.out.mono ((((Below.refl wr.heap.size wr).drew).trans (HBQ1.out.mono ((Below.refl wr.heap.size wr).drew).size)).trans (HBQ2.out.mono (((Below.refl wr.heap.size wr).drew).trans (HBQ1.out.mono ((Below.refl wr.heap.size wr).drew).size)).size)).size)).trans (HBQ4.out.mono (((((Below.refl wr.heap.size wr).drew).trans (HBQ1.out.mono ((Below.refl wr.heap.size wr).drew).size)).trans (HBQ2.out.mono (((Below.refl wr.heap.size wr).drew).trans (HBQ1.out.mono ((Below.refl wr.heap.size wr).drew).size)).size)).trans (HBQ3.out.mono ((((Below.refl wr.heap.size wr).drew).trans (HBQ1.out.mono ((Below.refl wr.heap.size wr).drew).size)).trans (HBQ2.out.mono (((Below.refl wr.heap.size wr).drew).trans (HBQ1.out.mono ((Below.refl wr.heap.size wr).drew).size)).size)).size)).size)).size))) HLB.out).mono ?_
              rintro e wq6 ⟨A14, c14, rfl, hs14, hb14⟩
              have HS14 := Lib.hid hs14
              have HBQ6 := Lib.hid hb14
              clear hs14 hb14
              go_wp2_with fail
              refine hK.out _ _ HBQ6.out (fun _ => ?_)
              clear hK K
              try simp only [Act.put, List.setIfInBounds_toArray, List.set_cons_zero, List.set_cons_succ]
              refine wpAnyH_mono (S' := fun w' => Below wq6.heap.size wq6 w') (fun w' h => HBQ6.out.trans (h.mono (by have := HBQ6.out.size; first | exact this | simpa using this))) ?_
              have hHeld : Below wq6.heap.size wq6 wq6 := Below.refl _ _
              refine held_yes (i := 15) (v := ?_) rfl (by kernel_rfl) (by kernel_rfl) (by kernel_rfl) (fun _ _ _ h => h) (by rfl) (fun w hSw => ?_) hHeld ?_
              rotate_left
              · have kc := str_of (HS14.out.rd.below hSw); go_simp; try with_reducible rfl
              simp only [List.setIfInBounds_toArray, List.set_cons_zero, List.set_cons_succ]
              refine held_yes (i := 16) (v := ?_) rfl (by kernel_rfl) (by kernel_rfl) (by kernel_rfl) (fun _ _ _ h => h) (by rfl) (fun w hSw => ?_) hHeld ?_
              rotate_left
              · go_simp; try with_reducible rfl
              simp only [List.setIfInBounds_toArray, List.set_cons_zero, List.set_cons_succ]
              refine held_yes (i := 17) (v := ?_) rfl (by kernel_rfl) (by kernel_rfl) (by kernel_rfl) (fun _ _ _ h => h) (by rfl) (fun w hSw => ?_) hHeld ?_
              rotate_left
              · go_simp; try with_reducible rfl
              simp only [List.setIfInBounds_toArray, List.set_cons_zero, List.set_cons_succ]
              refine held_yes (i := 18) (v := ?_) rfl (by kernel_rfl) (by kernel_rfl) (by kernel_rfl) (fun _ _ _ h => h) (by rfl) (fun w hSw => ?_) hHeld ?_
              rotate_left
              · go_simp; try with_reducible rfl
              simp only [List.setIfInBounds_toArray, List.set_cons_zero, List.set_cons_succ]
              refine wpAnyH_done (by kernel_rfl) ?_ _
              go_wp2_with fail
              go_ret
              exact ⟨rfl, (HBX.out.trans (((((((((Below.refl wr.heap.size wr).drew).trans (HBQ1.out.mono ((Below.refl wr.heap.size wr).drew).size)).trans (HBQ2.out.mono (((Below.refl wr.heap.size wr).drew).trans (HBQ1.out.mono ((Below.refl wr.heap.size wr).drew).size)).size)).trans (HBQ3.out.mono ((((Below.refl wr.heap.size wr).drew).trans (HBQ1.out.mono ((Below.refl wr.heap.size wr).drew).size)).trans (HBQ2.out.mono (((Below.refl wr.heap.size wr).drew).trans (HBQ1.out.mono ((Below.refl wr.heap.size wr).drew).size)).size)).size)).trans (HBQ4.out.mono (((((Below.refl wr.heap.size wr).drew).trans (HBQ1.out.mono ((Below.refl wr.heap.size wr).drew).size)).trans (HBQ2.out.mono (((Below.refl wr.heap.size wr).drew).trans (HBQ1.out.mono ((Below.refl wr.heap.size wr).drew).size)).size)).trans (HBQ3.out.mono ((((Below.refl wr.heap.size wr).drew).trans (HBQ1.out.mono ((Below.refl wr.heap.size wr).drew).size)).trans (HBQ2.out.mono (((Below.refl wr.heap.size wr).drew).trans (HBQ1.out.mono ((Below.refl wr.heap.size wr).drew).size)).size)).size)).size)).trans (HBQ5.out.mono ((((((Below.refl wr.heap.size wr).drew).trans (HBQ1.out.mono ((Below.refl wr.heap.size wr).drew).size)).trans (HBQ2.out.mono (((Below.refl wr.heap.size wr).drew).trans (HBQ1.out.mono ((Below.refl wr.heap.size wr).drew).size)).size)).trans (HBQ3.out.mono ((((Below.refl wr.heap.size wr).drew).trans (HBQ1.out.mono ((Below.refl wr.heap.size wr).drew).size)).trans (HBQ2.out.mono (((Below.refl wr.heap.size wr).drew).trans (HBQ1.out.mono ((Below.refl wr.heap.size wr).drew).size)).size)).size)).trans (HBQ4.out.mono (((((Below.refl wr.heap.size wr).drew).trans (HBQ1.out.mono ((Below.refl wr.heap.size wr).drew).size)).trans (HBQ2.out.mono (((Below.refl wr.heap.size wr).drew).trans (HBQ1.out.mono ((Below.refl wr.heap.size wr).drew).size)).size)).trans (HBQ3.out.mono ((((Below.refl wr.heap.size wr).drew).trans (HBQ1.out.mono ((Below.refl wr.heap.size wr).drew).size)).trans (HBQ2.out.mono (((Below.refl wr.heap.size wr).drew).trans (HBQ1.out.mono ((Below.refl wr.heap.size wr).drew).size)).size)).size)).size)).size)).trans (HBQ6.out.mono (((((((Below.refl wr.heap.size wr).drew).trans (HBQ1.out.mono ((Below.refl wr.heap.size wr).drew).size)).trans (HBQ2.out.mono (((Below.refl wr.heap.size wr).drew).trans (HBQ1.out.mono ((Below.refl wr.heap.size wr).drew).size)).size)).trans (HBQ3.out.mono ((((Below.refl wr.heap.size wr).drew).trans (HBQ1.out.mono ((Below.refl wr.heap.size wr).drew).size)).trans (HBQ2.out.mono (((Below.refl wr.heap.size wr).drew).trans (HBQ1.out.mono ((Below.refl wr.heap.size wr).drew).size)).size)).size)).trans (HBQ4.out.mono (((((Below.refl wr.heap.size wr).drew).trans (HBQ1.out.mono ((Below.refl wr.heap.size wr).drew).size)).trans (HBQ2.out.mono (((Below.refl wr.heap.size wr).drew).trans (HBQ1.out.mono ((Below.refl wr.heap.size wr).drew).size)).size)).trans (HBQ3.out.mono ((((Below.refl wr.heap.size wr).drew).trans (HBQ1.out.mono ((Below.refl wr.heap.size wr).drew).size)).trans (HBQ2.out.mono (((Below.refl wr.heap.size wr).drew).trans (HBQ1.out.mono ((Below.refl wr.heap.size wr).drew).size)).size)).size)).size)).trans (HBQ5.out.mono ((((((Below.refl wr.heap.size wr).drew).trans (HBQ1.out.mono ((Below.refl wr.heap.size wr).drew).size)).trans (HBQ2.out.mono (((Below.refl wr.heap.size wr).drew).trans (HBQ1.out.mono ((Below.refl wr.heap.size wr).drew).size)).size)).trans (HBQ3.out.mono ((((Below.refl wr.heap.size wr).drew).trans (HBQ1.out.mono ((Below.refl wr.heap.size wr).drew).size)).trans (HBQ2.out.mono (((Below.refl wr.heap.size wr).drew).trans (HBQ1.out.mono ((Below.refl wr.heap.size wr).drew).size)).size)).size)).trans (HBQ4.out.mono (((((Below.refl wr.heap.size wr).drew).trans (HBQ1.out.mono ((Below.refl wr.heap.size wr).drew).size)).trans (HBQ2.out.mono (((Below.refl wr.heap.size wr).drew).trans (HBQ1.out.mono ((Below.refl wr.heap.size wr).drew).size)).size)).trans (HBQ3.out.mono ((((Below.refl wr.heap.size wr).drew).trans (HBQ1.out.mono ((Below.refl wr.heap.size wr).drew).size)).trans (HBQ2.out.mono (((Below.refl wr.heap.size wr).drew).trans (HBQ1.out.mono ((Below.refl wr.heap.size wr).drew).size)).size)).size)).size)).size)).size)).mono HBX.out.size))⟩
            · skip
              rw [if_pos (by rfl)]
              go_wp2_with fail
              refine world_at (F := fun wx => Below wq3.heap.size wq3 wx ∧ Rd wx 1 (some ⟨wq3.heap.size, 0, none⟩) 1 1 [.slice Ab nb cb]) ⟨(Below.refl _ _).alloc (Nat.le_refl _) _, rd_lit wq3 #[.slice Ab nb cb] _ 1 1 rfl (by simp [maxLen])⟩ (fun wq7 HF => ?_)
              have HBQ7 := Lib.hid HF.out.1
              have HR13 := Lib.hid HF.out.2
              clear HF
              refine hK.out _ _ HBQ7.out (fun _ => ?_)
              clear hK K
              try simp only [Act.put, List.setIfInBounds_toArray, List.set_cons_zero, List.set_cons_succ]
              refine wpAnyH_mono (S' := fun w' => Below wq7.heap.size wq7 w') (fun w' h => HBQ7.out.trans (h.mono (by have := HBQ7.out.size; first | exact this | simpa using this))) ?_
              have hHeld : Below wq7.heap.size wq7 wq7 := Below.refl _ _
              refine held_only (i := 10) (by kernel_rfl) rfl (fun K hK => ?_)
              rw [if_pos (by rfl)]
              go_simp
              refine (hsum_live (w1.heap.size + 1) A7 _ wq7 (HT9.out.live2.below ((((((Below.refl wr.heap.size wr).drew).trans (HBQ1.out.mono ((Below.refl wr.heap.size wr).drew).size)).trans (HBQ2.out.mono (((Below.refl wr.heap.size wr).drew).trans (HBQ1.out.mono ((Below.refl wr.heap.size wr).drew).size)).size)).trans (HBQ3.out.mono ((((Below.refl wr.heap.size wr).drew).trans (HBQ1.out.mono ((Below.refl wr.heap.size wr).drew).size)).trans (HBQ2.out.mono (((Below.refl wr.heap.size wr).drew).trans (HBQ1.out.mono ((Below.refl wr.heap.size wr).drew).size)).size)).size)).trans (HBQ7.out.mono (((((Below.refl wr.heap.size wr).drew).trans (HBQ1.out.mono ((Below.refl wr.heap.size wr).drew).size)).trans (HBQ2.out.mono (((Below.refl wr.heap.size wr).drew).trans (HBQ1.out.mono ((Below.refl wr.heap.size wr).drew).size)).size)).trans (HBQ3.out.mono ((((Below.refl wr.heap.size wr).drew).trans (HBQ1.out.mono ((Below.refl wr.heap.size wr).drew).size)).trans (HBQ2.out.mono (((Below.refl wr.heap.size wr).drew).trans (HBQ1.out.mono ((Below.refl wr.heap.size wr).drew).size)).size)).size)).size))) HLB.out).mono ?_
              rintro e wq8 ⟨A10, c10, rfl, hs10, hb10⟩
              have HS10 := Lib.hid hs10
              have HBQ8 := Lib.hid hb10
              clear hs10 hb10
              go_wp2_with fail
              refine hK.out _ _ HBQ8.out (fun _ => ?_)
              clear hK K
              try simp only [Act.put, List.setIfInBounds_toArray, List.set_cons_zero, List.set_cons_succ]
              refine wpAnyH_mono (S' := fun w' => Below wq8.heap.size wq8 w') (fun w' h => HBQ8.out.trans (h.mono (by have := HBQ8.out.size; first | exact this | simpa using this))) ?_
              have hHeld : Below wq8.heap.size wq8 wq8 := Below.refl _ _
              refine held_yes (i := 11) (v := ?_) rfl (by kernel_rfl) (by kernel_rfl) (by kernel_rfl) (fun _ _ _ h => h) (by rfl) (fun w hSw => ?_) hHeld ?_
              rotate_left
              · have kc := str_of (HS10.out.rd.below hSw); go_simp; try with_reducible rfl
              simp only [List.setIfInBounds_toArray, List.set_cons_zero, List.set_cons_succ]
              refine held_only (i := 14) (by kernel_rfl) rfl (fun K hK => ?_)
              rw [if_pos (by rfl)]
              go_simp
              refine (sum_one _ _ _ _ _ _ wq8 (HR13.out.below HBQ8.out) (HRB9.out.below (((((((Below.refl wr.heap.size wr).drew).trans (HBQ1.out.mono ((Below.refl wr.heap.size wr).drew).size)).trans (HBQ2.out.mono (((Below.refl wr.heap.size wr).drew).trans (HBQ1.out.mono ((Below.refl wr.heap.size wr).drew).size)).size)).trans (HBQ3.out.mono ((((Below.refl wr.heap.size wr).drew).trans (HBQ1.out.mono ((Below.refl wr.heap.size wr).drew).size)).trans (HBQ2.out.mono (((Below.refl wr.heap.size wr).drew).trans (HBQ1.out.mono ((Below.refl wr.heap.size wr).drew).size)).size)).size)).trans (HBQ7.out.mono (((((Below.refl wr.heap.size wr).drew).trans (HBQ1.out.mono ((Below.refl wr.heap.size wr).drew).size)).trans (HBQ2.out.mono (((Below.refl wr.heap.size wr).drew).trans (HBQ1.out.mono ((Below.refl wr.heap.size wr).drew).size)).size)).trans (HBQ3.out.mono ((((Below.refl wr.heap.size wr).drew).trans (HBQ1.out.mono ((Below.refl wr.heap.size wr).drew).size)).trans (HBQ2.out.mono (((Below.refl wr.heap.size wr).drew).trans (HBQ1.out.mono ((Below.refl wr.heap.size wr).drew).size)).size)).size)).size)).trans (HBQ8.out.mono ((((((Below.refl wr.heap.size wr).drew).trans (HBQ1.out.mono ((Below.refl wr.heap.size wr).drew).size)).trans (HBQ2.out.mono (((Below.refl wr.heap.size wr).drew).trans (HBQ1.out.mono ((Below.refl wr.heap.size wr).drew).size)).size)).trans (HBQ3.out.mono ((((Below.refl wr.heap.size wr).drew).trans (HBQ1.out.mono ((Below.refl wr.heap.size wr).drew).size)).trans (HBQ2.out.mono (((Below.refl wr.heap.size wr).drew).trans (HBQ1.out.mono ((Below.refl wr.heap.size wr).drew).size)).size)).size)).trans (HBQ7.out.mono (((((Below.refl wr.heap.size wr).drew).trans (HBQ1.out.mono ((Below.refl wr.heap.size wr).drew).size)).trans (HBQ2.out.mono (((Below.refl wr.heap.size wr).drew).trans (HBQ1.out.mono ((Below.refl wr.heap.size wr).drew).size)).size)).trans (HBQ3.out.mono ((((Below.refl wr.heap.size wr).drew).trans (HBQ1.out.mono ((Below.refl wr.heap.size wr).drew).size)).trans (HBQ2.out.mono (((Below.refl wr.heap.size wr).drew).trans (HBQ1.out.mono ((Below.refl wr.heap.size wr).drew).size)).size)).size)).size)).size))) HLB.out).mono ?_
              rintro e wq9 ⟨A14, c14, rfl, hs14, hb14⟩
              have HS14 := Lib.hid hs14
              have HBQ9 := Lib.hid hb14
              clear hs14 hb14
              go_wp2_with fail
              refine hK.out _ _ HBQ9.out (fun _ => ?_)
              clear hK K
              try simp only [Act.put, List.setIfInBounds_toArray, List.set_cons_zero, List.set_cons_succ]
              refine wpAnyH_mono (S' := fun w' => Below wq9.heap.size wq9 w') (fun w' h => HBQ9.out.trans (h.mono (by have := HBQ9.out.size; first | exact this | simpa using this))) ?_
              have hHeld : Below wq9.heap.size wq9 wq9 := Below.refl _ _
              refine held_yes (i := 15) (v := ?_) rfl (by kernel_rfl) (by kernel_rfl) (by kernel_rfl) (fun _ _ _ h => h) (by rfl) (fun w hSw => ?_) hHeld ?_
              rotate_left
              · have kc := str_of (HS14.out.rd.below hSw); go_simp; try with_reducible rfl
              simp only [List.setIfInBounds_toArray, List.set_cons_zero, List.set_cons_succ]
              refine held_yes (i := 16) (v := ?_) rfl (by kernel_rfl) (by kernel_rfl) (by kernel_rfl) (fun _ _ _ h => h) (by rfl) (fun w hSw => ?_) hHeld ?_
              rotate_left
              · go_simp; try with_reducible rfl
              simp only [List.setIfInBounds_toArray, List.set_cons_zero, List.set_cons_succ]
              refine held_yes (i := 17) (v := ?_) rfl (by kernel_rfl) (by kernel_rfl) (by kernel_rfl) (fun _ _ _ h => h) (by rfl) (fun w hSw => ?_) hHeld ?_
              rotate_left
              · go_simp; try with_reducible rfl
              simp only [List.setIfInBounds_toArray, List.set_cons_zero, List.set_cons_succ]
              refine held_yes (i := 18) (v := ?_) rfl (by kernel_rfl) (by kernel_rfl) (by kernel_rfl) (fun _ _ _ h => h) (by rfl) (fun w hSw => ?_) hHeld ?_
              rotate_left
              · go_simp; try with_reducible rfl
              simp only [List.setIfInBounds_toArray, List.set_cons_zero, List.set_cons_succ]
              refine wpAnyH_done (by kernel_rfl) ?_ _
              go_wp2_with fail
              go_ret
              exact ⟨rfl, (HBX.out.trans (((((((((Below.refl wr.heap.size wr).drew).trans (HBQ1.out.mono ((Below.refl wr.heap.size wr).drew).size)).trans (HBQ2.out.mono (((Below.refl wr.heap.size wr).drew).trans (HBQ1.out.mono ((Below.refl wr.heap.size wr).drew).size)).size)).trans (HBQ3.out.mono ((((Below.refl wr.heap.size wr).drew).trans (HBQ1.out.mono ((Below.refl wr.heap.size wr).drew).size)).trans (HBQ2.out.mono (((Below.refl wr.heap.size wr).drew).trans (HBQ1.out.mono ((Below.refl wr.heap.size wr).drew).size)).size)).size)).trans (HBQ7.out.mono (((((Below.refl wr.heap.size wr).drew).trans (HBQ1.out.mono ((Below.refl wr.heap.size wr).drew).size)).trans (HBQ2.out.mono (((Below.refl wr.heap.size wr).drew).trans (HBQ1.out.mono ((Below.refl wr.heap.size wr).drew).size)).size)).trans (HBQ3.out.mono ((((Below.refl wr.heap.size wr).drew).trans (HBQ1.out.mono ((Below.refl wr.heap.size wr).drew).size)).trans (HBQ2.out.mono (((Below.refl wr.heap.size wr).drew).trans (HBQ1.out.mono ((Below.refl wr.heap.size wr).drew).size)).size)).size)).size)).trans (HBQ8.out.mono ((((((Below.refl wr.heap.size wr).drew).trans (HBQ1.out.mono ((Below.refl wr.heap.size wr).drew).size)).trans (HBQ2.out.mono (((Below.refl wr.heap.size wr).drew).trans (HBQ1.out.mono ((Below.refl wr.heap.size wr).drew).size)).size)).trans (HBQ3.out.mono ((((Below.refl wr.heap.size wr).drew).trans (HBQ1.out.mono ((Below.refl wr.heap.size wr).drew).size)).trans (HBQ2.out.mono (((Below.refl wr.heap.size wr).drew).trans (HBQ1.out.mono ((Below.refl wr.heap.size wr).drew).size)).size)).size)).trans (HBQ7.out.mono (((((Below.refl wr.heap.size wr).drew).trans (HBQ1.out.mono ((Below.refl wr.heap.size wr).drew).size)).trans (HBQ2.out.mono (((Below.refl wr.heap.size wr).drew).trans (HBQ1.out.mono ((Below.refl wr.heap.size wr).drew).size)).size)).trans (HBQ3.out.mono ((((Below.refl wr.heap.size wr).drew).trans (HBQ1.out.mono ((Below.refl wr.heap.size wr).drew).size)).trans (HBQ2.out.mono (((Below.refl wr.heap.size wr).drew).trans (HBQ1.out.mono ((Below.refl wr.heap.size wr).drew).size)).size)).size)).size)).size)).trans (HBQ9.out.mono (((((((Below.refl wr.heap.size wr).drew).trans (HBQ1.out.mono ((Below.refl wr.heap.size wr).drew).size)).trans (HBQ2.out.mono (((Below.refl wr.heap.size wr).drew).trans (HBQ1.out.mono ((Below.refl wr.heap.size wr).drew).size)).size)).trans (HBQ3.out.mono ((((Below.refl wr.heap.size wr).drew).trans (HBQ1.out.mono ((Below.refl wr.heap.size wr).drew).size)).trans (HBQ2.out.mono (((Below.refl wr.heap.size wr).drew).trans (HBQ1.out.mono ((Below.refl wr.heap.size wr).drew).size)).size)).size)).trans (HBQ7.out.mono (((((Below.refl wr.heap.size wr).drew).trans (HBQ1.out.mono ((Below.refl wr.heap.size wr).drew).size)).trans (HBQ2.out.mono (((Below.refl wr.heap.size wr).drew).trans (HBQ1.out.mono ((Below.refl wr.heap.size wr).drew).size)).size)).trans (HBQ3.out.mono ((((Below.refl wr.heap.size wr).drew).trans (HBQ1.out.mono ((Below.refl wr.heap.size wr).drew).size)).trans (HBQ2.out.mono (((Below.refl wr.heap.size wr).drew).trans (HBQ1.out.mono ((Below.refl wr.heap.size wr).drew).size)).size)).size)).size)).trans (HBQ8.out.mono ((((((Below.refl wr.heap.size wr).drew).trans (HBQ1.out.mono ((Below.refl wr.heap.size wr).drew).size)).trans (HBQ2.out.mono (((Below.refl wr.heap.size wr).drew).trans (HBQ1.out.mono ((Below.refl wr.heap.size wr).drew).size)).size)).trans (HBQ3.out.mono ((((Below.refl wr.heap.size wr).drew).trans (HBQ1.out.mono ((Below.refl wr.heap.size wr).drew).size)).trans (HBQ2.out.mono (((Below.refl wr.heap.size wr).drew).trans (HBQ1.out.mono ((Below.refl wr.heap.size wr).drew).size)).size)).size)).trans (HBQ7.out.mono (((((Below.refl wr.heap.size wr).drew).trans (HBQ1.out.mono ((Below.refl wr.heap.size wr).drew).size)).trans (HBQ2.out.mono (((Below.refl wr.heap.size wr).drew).trans (HBQ1.out.mono ((Below.refl wr.heap.size wr).drew).size)).size)).trans (HBQ3.out.mono ((((Below.refl wr.heap.size wr).drew).trans (HBQ1.out.mono ((Below.refl wr.heap.size wr).drew).size)).trans (HBQ2.out.mono (((Below.refl wr.heap.size wr).drew).trans (HBQ1.out.mono ((Below.refl wr.heap.size wr).drew).size)).size)).size)).size)).size)).size)).mono HBX.out.size))⟩
          · skip
            rw [if_pos (by rfl)]
            go_wp2_with fail
            refine world_at (F := fun wx => Below wr.drew.heap.size wr.drew wx ∧ Rd wx 1 (some ⟨wr.drew.heap.size, 0, none⟩) 1 1 [.slice Aa ka ca]) ⟨(Below.refl _ _).alloc (Nat.le_refl _) _, rd_lit wr.drew #[.slice Aa ka ca] _ 1 1 rfl (by simp [maxLen])⟩ (fun wq10 HF => ?_)
            have HBQ10 := Lib.hid HF.out.1
            have HR4 := Lib.hid HF.out.2
            clear HF
            refine hK.out _ _ ((Below.refl wr.heap.size wr).drew.trans HBQ10.out) (fun _ => ?_)
            clear hK K
            try simp only [Act.put, List.setIfInBounds_toArray, List.set_cons_zero, List.set_cons_succ]
            refine wpAnyH_mono (S' := fun w' => Below wq10.heap.size wq10 w') (fun w' h => ((Below.refl wr.heap.size wr).drew.trans HBQ10.out).trans (h.mono (by have := HBQ10.out.size; first | exact this | simpa using this))) ?_
            have hHeld : Below wq10.heap.size wq10 wq10 := Below.refl _ _
            refine held_only (i := 1) (by kernel_rfl) rfl (fun K hK => ?_)
            rw [if_pos (by rfl)]
            go_simp
            refine (hsum_live w1.heap.size A5 _ wq10 (HT9.out.live1.below (((Below.refl wr.heap.size wr).drew).trans (HBQ10.out.mono ((Below.refl wr.heap.size wr).drew).size))) HLA.out).mono ?_
            rintro e wq11 ⟨A1, c1, rfl, hs1, hb1⟩
            have HS1 := Lib.hid hs1
            have HBQ11 := Lib.hid hb1
            clear hs1 hb1
            go_wp2_with fail
            refine hK.out _ _ HBQ11.out (fun _ => ?_)
            clear hK K
            try simp only [Act.put, List.setIfInBounds_toArray, List.set_cons_zero, List.set_cons_succ]
            refine wpAnyH_mono (S' := fun w' => Below wq11.heap.size wq11 w') (fun w' h => HBQ11.out.trans (h.mono (by have := HBQ11.out.size; first | exact this | simpa using this))) ?_
            have hHeld : Below wq11.heap.size wq11 wq11 := Below.refl _ _
            refine held_yes (i := 2) (v := ?_) rfl (by kernel_rfl) (by kernel_rfl) (by kernel_rfl) (fun _ _ _ h => h) (by rfl) (fun w hSw => ?_) hHeld ?_
            rotate_left
            · have kc := str_of (HS1.out.rd.below hSw); go_simp; try with_reducible rfl
            simp only [List.setIfInBounds_toArray, List.set_cons_zero, List.set_cons_succ]
            refine held_only (i := 5) (by kernel_rfl) rfl (fun K hK => ?_)
            rw [if_pos (by rfl)]
            go_simp
            refine (sum_one _ _ _ _ _ _ wq11 (HR4.out.below HBQ11.out) (HRA9.out.below ((((Below.refl wr.heap.size wr).drew).trans (HBQ10.out.mono ((Below.refl wr.heap.size wr).drew).size)).trans (HBQ11.out.mono (((Below.refl wr.heap.size wr).drew).trans (HBQ10.out.mono ((Below.refl wr.heap.size wr).drew).size)).size))) HLA.out).mono ?_
            rintro e wq12 ⟨A5, c5, rfl, hs5, hb5⟩
            have HS5 := Lib.hid hs5
            have HBQ12 := Lib.hid hb5
            clear hs5 hb5
            go_wp2_with fail
            refine hK.out _ _ HBQ12.out (fun _ => ?_)
            clear hK K
            try simp only [Act.put, List.setIfInBounds_toArray, List.set_cons_zero, List.set_cons_succ]
            refine wpAnyH_mono (S' := fun w' => Below wq12.heap.size wq12 w') (fun w' h => HBQ12.out.trans (h.mono (by have := HBQ12.out.size; first | exact this | simpa using this))) ?_
            have hHeld : Below wq12.heap.size wq12 wq12 := Below.refl _ _
            refine held_yes (i := 6) (v := ?_) rfl (by kernel_rfl) (by kernel_rfl) (by kernel_rfl) (fun _ _ _ h => h) (by rfl) (fun w hSw => ?_) hHeld ?_
            rotate_left
            · have kc := str_of (HS5.out.rd.below hSw); go_simp; try with_reducible rfl
            simp only [List.setIfInBounds_toArray, List.set_cons_zero, List.set_cons_succ]
            refine held_yes (i := 7) (v := ?_) rfl (by kernel_rfl) (by kernel_rfl) (by kernel_rfl) (fun _ _ _ h => h) (by rfl) (fun w hSw => ?_) hHeld ?_
            rotate_left
            · go_simp; try with_reducible rfl
            simp only [List.setIfInBounds_toArray, List.set_cons_zero, List.set_cons_succ]
            refine held_yes (i := 8) (v := ?_) rfl (by kernel_rfl) (by kernel_rfl) (by kernel_rfl) (fun _ _ _ h => h) (by rfl) (fun w hSw => ?_) hHeld ?_
            rotate_left
            · go_simp; try with_reducible rfl
            simp only [List.setIfInBounds_toArray, List.set_cons_zero, List.set_cons_succ]
            refine held_yes (i := 9) (v := ?_) rfl (by kernel_rfl) (by kernel_rfl) (by kernel_rfl) (fun _ _ _ h => h) (by rfl) (fun w hSw => ?_) hHeld ?_
            rotate_left
            · go_simp; try with_reducible rfl
            simp only [List.setIfInBounds_toArray, List.set_cons_zero, List.set_cons_succ]
            refine held_yes (i := 12) (v := ?_) rfl (by kernel_rfl) (by kernel_rfl) (by kernel_rfl) (fun _ _ _ h => h) (by rfl) (fun w hSw => ?_) hHeld ?_
            rotate_left
            · go_simp; try with_reducible rfl
            simp only [List.setIfInBounds_toArray, List.set_cons_zero, List.set_cons_succ]
            refine wpAnyH_ready (rs := [10, 13]) (by kernel_rfl) (by simp) (AllReadyH.cons rfl (fun K hK => ?_) (AllReadyH.cons rfl (fun K hK => ?_) AllReadyH.nil))
            · skip
              rw [if_pos (by rfl)]
              go_simp
              refine (hsum_live (w1.heap.size + 1) A7 _ wq12 (HT9.out.live2.below (((((Below.refl wr.heap.size wr).drew).trans (HBQ10.out.mono ((Below.refl wr.heap.size wr).drew).size)).trans (HBQ11.out.mono (((Below.refl wr.heap.size wr).drew).trans (HBQ10.out.mono ((Below.refl wr.heap.size wr).drew).size)).size)).trans (HBQ12.out.mono ((((Below.refl wr.heap.size wr).drew).trans (HBQ10.out.mono ((Below.refl wr.heap.size wr).drew).size)).trans (HBQ11.out.mono (((Below.refl wr.heap.size wr).drew).trans (HBQ10.out.mono ((Below.refl wr.heap.size wr).drew).size)).size)).size))) HLB.out).mono ?_
              rintro e wq13 ⟨A10, c10, rfl, hs10, hb10⟩
              have HS10 := Lib.hid hs10
              have HBQ13 := Lib.hid hb10
              clear hs10 hb10
              go_wp2_with fail
              refine hK.out _ _ HBQ13.out (fun _ => ?_)
              clear hK K
              try simp only [Act.put, List.setIfInBounds_toArray, List.set_cons_zero, List.set_cons_succ]
              refine wpAnyH_mono (S' := fun w' => Below wq13.heap.size wq13 w') (fun w' h => HBQ13.out.trans (h.mono (by have := HBQ13.out.size; first | exact this | simpa using this))) ?_
              have hHeld : Below wq13.heap.size wq13 wq13 := Below.refl _ _
              refine held_yes (i := 11) (v := ?_) rfl (by kernel_rfl) (by kernel_rfl) (by kernel_rfl) (fun _ _ _ h => h) (by rfl) (fun w hSw => ?_) hHeld ?_
              rotate_left
              · have kc := str_of (HS10.out.rd.below hSw); go_simp; try with_reducible rfl
              simp only [List.setIfInBounds_toArray, List.set_cons_zero, List.set_cons_succ]
              refine held_only (i := 13) (by kernel_rfl) rfl (fun K hK => ?_)
              rw [if_pos (by rfl)]
              go_wp2_with fail
              refine world_at (F := fun wx => Below wq13.heap.size wq13 wx ∧ Rd wx 1 (some ⟨wq13.heap.size, 0, none⟩) 1 1 [.slice Ab nb cb]) ⟨(Below.refl _ _).alloc (Nat.le_refl _) _, rd_lit wq13 #[.slice Ab nb cb] _ 1 1 rfl (by simp [maxLen])⟩ (fun wq14 HF => ?_)
              have HBQ14 := Lib.hid HF.out.1
              have HR13 := Lib.hid HF.out.2
              clear HF
              refine hK.out _ _ HBQ14.out (fun _ => ?_)
              clear hK K
              try simp only [Act.put, List.setIfInBounds_toArray, List.set_cons_zero, List.set_cons_succ]
              refine wpAnyH_mono (S' := fun w' => Below wq14.heap.size wq14 w') (fun w' h => HBQ14.out.trans (h.mono (by have := HBQ14.out.size; first | exact this | simpa using this))) ?_
              have hHeld : Below wq14.heap.size wq14 wq14 := Below.refl _ _
              refine held_only (i := 14) (by kernel_rfl) rfl (fun K hK => ?_)
              rw [if_pos (by rfl)]
              go_simp
              refine (sum_one _ _ _ _ _ _ wq14 (HR13.out.below (Below.refl _ _)) (HRB9.out.below (((((((Below.refl wr.heap.size wr).drew).trans (HBQ10.out.mono ((Below.refl wr.heap.size wr).drew).size)).trans (HBQ11.out.mono (((Below.refl wr.heap.size wr).drew).trans (HBQ10.out.mono ((Below.refl wr.heap.size wr).drew).size)).size)).trans (HBQ12.out.mono ((((Below.refl wr.heap.size wr).drew).trans (HBQ10.out.mono ((Below.refl wr.heap.size wr).drew).size)).trans (HBQ11.out.mono (((Below.refl wr.heap.size wr).drew).trans (HBQ10.out.mono ((Below.refl wr.heap.size wr).drew).size)).size)).size)).trans (HBQ13.out.mono (((((Below.refl wr.heap.size wr).drew).trans (HBQ10.out.mono ((Below.refl wr.heap.size wr).drew).size)).trans (HBQ11.out.mono (((Below.refl wr.heap.size wr).drew).trans (HBQ10.out.mono ((Below.refl wr.heap.size wr).drew).size)).size)).trans (HBQ12.out.mono ((((Below.refl wr.heap.size wr).drew).trans (HBQ10.out.mono ((Below.refl wr.heap.size wr).drew).size)).trans (HBQ11.out.mono (((Below.refl wr.heap.size wr).drew).trans (HBQ10.out.mono ((Below.refl wr.heap.size wr).drew).size)).size)).size)).size)).trans (HBQ14.out.mono ((((((Below.refl wr.heap.size wr).drew).trans (HBQ10.out.mono ((Below.refl wr.heap.size wr).drew).size)).trans (HBQ11.out.mono (((Below.refl wr.heap.size wr).drew).trans (HBQ10.out.mono ((Below.refl wr.heap.size wr).drew).size)).size)).trans (HBQ12.out.mono ((((Below.refl wr.heap.size wr).drew).trans (HBQ10.out.mono ((Below.refl wr.heap.size wr).drew).size)).trans (HBQ11.out.mono (((Below.refl wr.heap.size wr).drew).trans (HBQ10.out.mono ((Below.refl wr.heap.size wr).drew).size)).size)).size)).trans (HBQ13.out.mono (((((Below.refl wr.heap.size wr).drew).trans (HBQ10.out.mono ((Below.refl wr.heap.size wr).drew).size)).trans (HBQ11.out.mono (((Below.refl wr.heap.size wr).drew).trans (HBQ10.out.mono ((Below.refl wr.heap.size wr).drew).size)).size)).trans (HBQ12.out.mono ((((Below.refl wr.heap.size wr).drew).trans (HBQ10.out.mono ((Below.refl wr.heap.size wr).drew).size)).trans (HBQ11.out.mono (((Below.refl wr.heap.size wr).drew).trans (HBQ10.out.mono ((Below.refl wr.heap.size wr).drew).size)).size)).size)).size)).size))) HLB.out).mono ?_
              rintro e wq15 ⟨A14, c14, rfl, hs14, hb14⟩
              have HS14 := Lib.hid hs14
              have HBQ15 := Lib.hid hb14
              clear hs14 hb14
              go_wp2_with fail
              refine hK.out _ _ HBQ15.out (fun _ => ?_)
              clear hK K
              try simp only [Act.put, List.setIfInBounds_toArray, List.set_cons_zero, List.set_cons_succ]
              refine wpAnyH_mono (S' := fun w' => Below wq15.heap.size wq15 w') (fun w' h => HBQ15.out.trans (h.mono (by have := HBQ15.out.size; first | exact this | simpa using this))) ?_
              have hHeld : Below wq15.heap.size wq15 wq15 := Below.refl _ _
              refine held_yes (i := 15) (v := ?_) rfl (by kernel_rfl) (by kernel_rfl) (by kernel_rfl) (fun _ _ _ h => h) (by rfl) (fun w hSw => ?_) hHeld ?_
              rotate_left
              · have kc := str_of (HS14.out.rd.below hSw); go_simp; try with_reducible rfl
              simp only [List.setIfInBounds_toArray, List.set_cons_zero, List.set_cons_succ]
              refine held_yes (i := 16) (v := ?_) rfl (by kernel_rfl) (by kernel_rfl) (by kernel_rfl) (fun _ _ _ h => h) (by rfl) (fun w hSw => ?_) hHeld ?_
              rotate_left
              · go_simp; try with_reducible rfl
              simp only [List.setIfInBounds_toArray, List.set_cons_zero, List.set_cons_succ]
              refine held_yes (i := 17) (v := ?_) rfl (by kernel_rfl) (by kernel_rfl) (by kernel_rfl) (fun _ _ _ h => h) (by rfl) (fun w hSw => ?_) hHeld ?_
              rotate_left
              · go_simp; try with_reducible rfl
              simp only [List.setIfInBounds_toArray, List.set_cons_zero, List.set_cons_succ]
              refine held_yes (i := 18) (v := ?_) rfl (by kernel_rfl) (by kernel_rfl) (by kernel_rfl) (fun _ _ _ h => h) (by rfl) (fun w hSw => ?_) hHeld ?_
              rotate_left
              · go_simp; try with_reducible rfl
              simp only [List.setIfInBounds_toArray, List.set_cons_zero, List.set_cons_succ]
              refine wpAnyH_done (by kernel_rfl) ?_ _
              go_wp2_with fail
              go_ret
              exact ⟨rfl, (HBX.out.trans (((((((((Below.refl wr.heap.size wr).drew).trans (HBQ10.out.mono ((Below.refl wr.heap.size wr).drew).size)).trans (HBQ11.out.mono (((Below.refl wr.heap.size wr).drew).trans (HBQ10.out.mono ((Below.refl wr.heap.size wr).drew).size)).size)).trans (HBQ12.out.mono ((((Below.refl wr.heap.size wr).drew).trans (HBQ10.out.mono ((Below.refl wr.heap.size wr).drew).size)).trans (HBQ11.out.mono (((Below.refl wr.heap.size wr).drew).trans (HBQ10.out.mono ((Below.refl wr.heap.size wr).drew).size)).size)).size)).trans (HBQ13.out.mono (((((Below.refl wr.heap.size wr).drew).trans (HBQ10.out.mono ((Below.refl wr.heap.size wr).drew).size)).trans (HBQ11.out.mono (((Below.refl wr.heap.size wr).drew).trans (HBQ10.out.mono ((Below.refl wr.heap.size wr).drew).size)).size)).trans (HBQ12.out.mono ((((Below.refl wr.heap.size wr).drew).trans (HBQ10.out.mono ((Below.refl wr.heap.size wr).drew).size)).trans (HBQ11.out.mono (((Below.refl wr.heap.size wr).drew).trans (HBQ10.out.mono ((Below.refl wr.heap.size wr).drew).size)).size)).size)).size)).trans (HBQ14.out.mono ((((((Below.refl wr.heap.size wr).drew).trans (HBQ10.out.mono ((Below.refl wr.heap.size wr).drew).size)).trans (HBQ11.out.mono (((Below.refl wr.heap.size wr).drew).trans (HBQ10.out.mono ((Below.refl wr.heap.size wr).drew).size)).size)).trans (HBQ12.out.mono ((((Below.refl wr.heap.size wr).drew).trans (HBQ10.out.mono ((Below.refl wr.heap.size wr).drew).size)).trans (HBQ11.out.mono (((Below.refl wr.heap.size wr).drew).trans (HBQ10.out.mono ((Below.refl wr.heap.size wr).drew).size)).size)).size)).trans (HBQ13.out.mono (((((Below.refl wr.heap.size wr).drew).trans (HBQ10.out.mono ((Below.refl wr.heap.size wr).drew).size)).trans (HBQ11.out.mono (((Below.refl wr.heap.size wr).drew).trans (HBQ10.out.mono ((Below.refl wr.heap.size wr).drew).size)).size)).trans (HBQ12.out.mono ((((Below.refl wr.heap.size wr).drew).trans (HBQ10.out.mono ((Below.refl wr.heap.size wr).drew).size)).trans (HBQ11.out.mono (((Below.refl wr.heap.size wr).drew).trans (HBQ10.out.mono ((Below.refl wr.heap.size wr).drew).size)).size)).size)).size)).size)).trans (HBQ15.out.mono (((((((Below.refl wr.heap.size wr).drew).trans (HBQ10.out.mono ((Below.refl wr.heap.size wr).drew).size)).trans (HBQ11.out.mono (((Below.refl wr.heap.size wr).drew).trans (HBQ10.out.mono ((Below.refl wr.heap.size wr).drew).size)).size)).trans (HBQ12.out.mono ((((Below.refl wr.heap.size wr).drew).trans (HBQ10.out.mono ((Below.refl wr.heap.size wr).drew).size)).trans (HBQ11.out.mono (((Below.refl wr.heap.size wr).drew).trans (HBQ10.out.mono ((Below.refl wr.heap.size wr).drew).size)).size)).size)).trans (HBQ13.out.mono (((((Below.refl wr.heap.size wr).drew).trans (HBQ10.out.mono ((Below.refl wr.heap.size wr).drew).size)).trans (HBQ11.out.mono (((Below.refl wr.heap.size wr).drew).trans (HBQ10.out.mono ((Below.refl wr.heap.size wr).drew).size)).size)).trans (HBQ12.out.mono ((((Below.refl wr.heap.size wr).drew).trans (HBQ10.out.mono ((Below.refl wr.heap.size wr).drew).size)).trans (HBQ11.out.mono (((Below.refl wr.heap.size wr).drew).trans (HBQ10.out.mono ((Below.refl wr.heap.size wr).drew).size)).size)).size)).size)).trans (HBQ14.out.mono ((((((Below.refl wr.heap.size wr).drew).trans (HBQ10.out.mono ((Below.refl wr.heap.size wr).drew).size)).trans (HBQ11.out.mono (((Below.refl wr.heap.size wr).drew).trans (HBQ10.out.mono ((Below.refl wr.heap.size wr).drew).size)).size)).trans (HBQ12.out.mono ((((Below.refl wr.heap.size wr).drew).trans (HBQ10.out.mono ((Below.refl wr.heap.size wr).drew).size)).trans (HBQ11.out.mono (((Below.refl wr.heap.size wr).drew).trans (HBQ10.out.mono ((Below.refl wr.heap.size wr).drew).size)).size)).size)).trans (HBQ13.out.mono (((((Below.refl wr.heap.size wr).drew).trans (HBQ10.out.mono ((Below.refl wr.heap.size wr).drew).size)).trans (HBQ11.out.mono (((Below.refl wr.heap.size wr).drew).trans (HBQ10.out.mono ((Below.refl wr.heap.size wr).drew).size)).size)).trans (HBQ12.out.mono ((((Below.refl wr.heap.size wr).drew).trans (HBQ10.out.mono ((Below.refl wr.heap.size wr).drew).size)).trans (HBQ11.out.mono (((Below.refl wr.heap.size wr).drew).trans (HBQ10.out.mono ((Below.refl wr.heap.size wr).drew).size)).size)).size)).size)).size)).size)).mono HBX.out.size))⟩
            · skip
              rw [if_pos (by rfl)]
              go_wp2_with fail
              refine world_at (F := fun wx => Below wq12.heap.size wq12 wx ∧ Rd wx 1 (some ⟨wq12.heap.size, 0, none⟩) 1 1 [.slice Ab nb cb]) ⟨(Below.refl _ _).alloc (Nat.le_refl _) _, rd_lit wq12 #[.slice Ab nb cb] _ 1 1 rfl (by simp [maxLen])⟩ (fun wq16 HF => ?_)
              have HBQ16 := Lib.hid HF.out.1
              have HR13 := Lib.hid HF.out.2
              clear HF
              refine hK.out _ _ HBQ16.out (fun _ => ?_)
              clear hK K
              try simp only [Act.put, List.setIfInBounds_toArray, List.set_cons_zero, List.set_cons_succ]
              refine wpAnyH_mono (S' := fun w' => Below wq16.heap.size wq16 w') (fun w' h => HBQ16.out.trans (h.mono (by have := HBQ16.out.size; first | exact this | simpa using this))) ?_
              have hHeld : Below wq16.heap.size wq16 wq16 := Below.refl _ _
              refine held_only (i := 10) (by kernel_rfl) rfl (fun K hK => ?_)
              rw [if_pos (by rfl)]
              go_simp
              refine (hsum_live (w1.heap.size + 1) A7 _ wq16 (HT9.out.live2.below ((((((Below.refl wr.heap.size wr).drew).trans (HBQ10.out.mono ((Below.refl wr.heap.size wr).drew).size)).trans (HBQ11.out.mono (((Below.refl wr.heap.size wr).drew).trans (HBQ10.out.mono ((Below.refl wr.heap.size wr).drew).size)).size)).trans (HBQ12.out.mono ((((Below.refl wr.heap.size wr).drew).trans (HBQ10.out.mono ((Below.refl wr.heap.size wr).drew).size)).trans (HBQ11.out.mono (((Below.refl wr.heap.size wr).drew).trans (HBQ10.out.mono ((Below.refl wr.heap.size wr).drew).size)).size)).size)).trans (HBQ16.out.mono (((((Below.refl wr.heap.size wr).drew).trans (HBQ10.out.mono ((Below.refl wr.heap.size wr).drew).size)).trans (HBQ11.out.mono (((Below.refl wr.heap.size wr).drew).trans (HBQ10.out.mono ((Below.refl wr.heap.size wr).drew).size)).size)).trans (HBQ12.out.mono ((((Below.refl wr.heap.size wr).drew).trans (HBQ10.out.mono ((Below.refl wr.heap.size wr).drew).size)).trans (HBQ11.out.mono (((Below.refl wr.heap.size wr).drew).trans (HBQ10.out.mono ((Below.refl wr.heap.size wr).drew).size)).size)).size)).size))) HLB.out).mono ?_
              rintro e wq17 ⟨A10, c10, rfl, hs10, hb10⟩
              have HS10 := Lib.hid hs10
              have HBQ17 := Lib.hid hb10
              clear hs10 hb10
              go_wp2_with fail
              refine hK.out _ _ HBQ17.out (fun _ => ?_)
              clear hK K
              try simp only [Act.put, List.setIfInBounds_toArray, List.set_cons_zero, List.set_cons_succ]
              refine wpAnyH_mono (S' := fun w' => Below wq17.heap.size wq17 w') (fun w' h => HBQ17.out.trans (h.mono (by have := HBQ17.out.size; first | exact this | simpa using this))) ?_
              have hHeld : Below wq17.heap.size wq17 wq17 := Below.refl _ _
              refine held_yes (i := 11) (v := ?_) rfl (by kernel_rfl) (by kernel_rfl) (by kernel_rfl) (fun _ _ _ h => h) (by rfl) (fun w hSw => ?_) hHeld ?_
              rotate_left
              · have kc := str_of (HS10.out.rd.below hSw); go_simp; try with_reducible rfl
              simp only [List.setIfInBounds_toArray, List.set_cons_zero, List.set_cons_succ]
              refine held_only (i := 14) (by kernel_rfl) rfl (fun K hK => ?_)
              rw [if_pos (by rfl)]
              go_simp
              refine (sum_one _ _ _ _ _ _ wq17 (HR13.out.below HBQ17.out) (HRB9.out.below (((((((Below.refl wr.heap.size wr).drew).trans (HBQ10.out.mono ((Below.refl wr.heap.size wr).drew).size)).trans (HBQ11.out.mono (((Below.refl wr.heap.size wr).drew).trans (HBQ10.out.mono ((Below.refl wr.heap.size wr).drew).size)).size)).trans (HBQ12.out.mono ((((Below.refl wr.heap.size wr).drew).trans (HBQ10.out.mono ((Below.refl wr.heap.size wr).drew).size)).trans (HBQ11.out.mono (((Below.refl wr.heap.size wr).drew).trans (HBQ10.out.mono ((Below.refl wr.heap.size wr).drew).size)).size)).size)).trans (HBQ16.out.mono (((((Below.refl wr.heap.size wr).drew).trans (HBQ10.out.mono ((Below.refl wr.heap.size wr).drew).size)).trans (HBQ11.out.mono (((Below.refl wr.heap.size wr).drew).trans (HBQ10.out.mono ((Below.refl wr.heap.size wr).drew).size)).size)).trans (HBQ12.out.mono ((((Below.refl wr.heap.size wr).drew).trans (HBQ10.out.mono ((Below.refl wr.heap.size wr).drew).size)).trans (HBQ11.out.mono (((Below.refl wr.heap.size wr).drew).trans (HBQ10.out.mono ((Below.refl wr.heap.size wr).drew).size)).size)).size)).size)).trans (HBQ17.out.mono ((((((Below.refl wr.heap.size wr).drew).trans (HBQ10.out.mono ((Below.refl wr.heap.size wr).drew).size)).trans (HBQ11.out.mono (((Below.refl wr.heap.size wr).drew).trans (HBQ10.out.mono ((Below.refl wr.heap.size wr).drew).size)).size)).trans (HBQ12.out.mono ((((Below.refl wr.heap.size wr).drew).trans (HBQ10.out.mono ((Below.refl wr.heap.size wr).drew).size)).trans (HBQ11.out.mono (((Below.refl wr.heap.size wr).drew).trans (HBQ10.out.mono ((Below.refl wr.heap.size wr).drew).size)).size)).size)).trans (HBQ16.out.mono (((((Below.refl wr.heap.size wr).drew).trans (HBQ10.out.mono ((Below.refl wr.heap.size wr).drew).size)).trans (HBQ11.out.mono (((Below.refl wr.heap.size wr).drew).trans (HBQ10.out.mono ((Below.refl wr.heap.size wr).drew).size)).size)).trans (HBQ12.out.mono ((((Below.refl wr.heap.size wr).drew).trans (HBQ10.out.mono ((Below.refl wr.heap.size wr).drew).size)).trans (HBQ11.out.mono (((Below.refl wr.heap.size wr).drew).trans (HBQ10.out.mono ((Below.refl wr.heap.size wr).drew).size)).size)).size)).size)).size))) HLB.out).mono ?_
              rintro e wq18 ⟨A14, c14, rfl, hs14, hb14⟩
              have HS14 := Lib.hid hs14
              have HBQ18 := Lib.hid hb14
              clear hs14 hb14
              go_wp2_with fail
              refine hK.out _ _ HBQ18.out (fun _ => ?_)
              clear hK K
              try simp only [Act.put, List.setIfInBounds_toArray, List.set_cons_zero, List.set_cons_succ]
              refine wpAnyH_mono (S' := fun w' => Below wq18.heap.size wq18 w') (fun w' h => HBQ18.out.trans (h.mono (by have := HBQ18.out.size; first | exact this | simpa using this))) ?_
              have hHeld : Below wq18.heap.size wq18 wq18 := Below.refl _ _
              refine held_yes (i := 15) (v := ?_) rfl (by kernel_rfl) (by kernel_rfl) (by kernel_rfl) (fun _ _ _ h => h) (by rfl) (fun w hSw => ?_) hHeld ?_
              rotate_left
              · have kc := str_of (HS14.out.rd.below hSw); go_simp; try with_reducible rfl
              simp only [List.setIfInBounds_toArray, List.set_cons_zero, List.set_cons_succ]
              refine held_yes (i := 16) (v := ?_) rfl (by kernel_rfl) (by kernel_rfl) (by kernel_rfl) (fun _ _ _ h => h) (by rfl) (fun w hSw => ?_) hHeld ?_
              rotate_left
              · go_simp; try with_reducible rfl
              simp only [List.setIfInBounds_toArray, List.set_cons_zero, List.set_cons_succ]
              refine held_yes (i := 17) (v := ?_) rfl (by kernel_rfl) (by kernel_rfl) (by kernel_rfl) (fun _ _ _ h => h) (by rfl) (fun w hSw => ?_) hHeld ?_
              rotate_left
              · go_simp; try with_reducible rfl
              simp only [List.setIfInBounds_toArray, List.set_cons_zero, List.set_cons_succ]
              refine held_yes (i := 18) (v := ?_) rfl (by kernel_rfl) (by kernel_rfl) (by kernel_rfl) (fun _ _ _ h => h) (by rfl) (fun w hSw => ?_) hHeld ?_
              rotate_left
              · go_simp; try with_reducible rfl
              simp only [List.setIfInBounds_toArray, List.set_cons_zero, List.set_cons_succ]
              refine wpAnyH_done (by kernel_rfl) ?_ _
              go_wp2_with fail
              go_ret
              exact ⟨rfl, (HBX.out.trans (((((((((Below.refl wr.heap.size wr).drew).trans (HBQ10.out.mono ((Below.refl wr.heap.size wr).drew).size)).trans (HBQ11.out.mono (((Below.refl wr.heap.size wr).drew).trans (HBQ10.out.mono ((Below.refl wr.heap.size wr).drew).size)).size)).trans (HBQ12.out.mono ((((Below.refl wr.heap.size wr).drew).trans (HBQ10.out.mono ((Below.refl wr.heap.size wr).drew).size)).trans (HBQ11.out.mono (((Below.refl wr.heap.size wr).drew).trans (HBQ10.out.mono ((Below.refl wr.heap.size wr).drew).size)).size)).size)).trans (HBQ16.out.mono (((((Below.refl wr.heap.size wr).drew).trans (HBQ10.out.mono ((Below.refl wr.heap.size wr).drew).size)).trans (HBQ11.out.mono (((Below.refl wr.heap.size wr).drew).trans (HBQ10.out.mono ((Below.refl wr.heap.size wr).drew).size)).size)).trans (HBQ12.out.mono ((((Below.refl wr.heap.size wr).drew).trans (HBQ10.out.mono ((Below.refl wr.heap.size wr).drew).size)).trans (HBQ11.out.mono (((Below.refl wr.heap.size wr).drew).trans (HBQ10.out.mono ((Below.refl wr.heap.size wr).drew).size)).size)).size)).size)).trans (HBQ17.out.mono ((((((Below.refl wr.heap.size wr).drew).trans (HBQ10.out.mono ((Below.refl wr.heap.size wr).drew).size)).trans (HBQ11.out.mono (((Below.refl wr.heap.size wr).drew).trans (HBQ10.out.mono ((Below.refl wr.heap.size wr).drew).size)).size)).trans (HBQ12.out.mono ((((Below.refl wr.heap.size wr).drew).trans (HBQ10.out.mono ((Below.refl wr.heap.size wr).drew).size)).trans (HBQ11.out.mono (((Below.refl wr.heap.size wr).drew).trans (HBQ10.out.mono ((Below.refl wr.heap.size wr).drew).size)).size)).size)).trans (HBQ16.out.mono (((((Below.refl wr.heap.size wr).drew).trans (HBQ10.out.mono ((Below.refl wr.heap.size wr).drew).size)).trans (HBQ11.out.mono (((Below.refl wr.heap.size wr).drew).trans (HBQ10.out.mono ((Below.refl wr.heap.size wr).drew).size)).size)).trans (HBQ12.out.mono ((((Below.refl wr.heap.size wr).drew).trans (HBQ10.out.mono ((Below.refl wr.heap.size wr).drew).size)).trans (HBQ11.out.mono (((Below.refl wr.heap.size wr).drew).trans (HBQ10.out.mono ((Below.refl wr.heap.size wr).drew).size)).size)).size)).size)).size)).trans (HBQ18.out.mono (((((((Below.refl wr.heap.size wr).drew).trans (HBQ10.out.mono ((Below.refl wr.heap.size wr).drew).size)).trans (HBQ11.out.mono (((Below.refl wr.heap.size wr).drew).trans (HBQ10.out.mono ((Below.refl wr.heap.size wr).drew).size)).size)).trans (HBQ12.out.mono ((((Below.refl wr.heap.size wr).drew).trans (HBQ10.out.mono ((Below.refl wr.heap.size wr).drew).size)).trans (HBQ11.out.mono (((Below.refl wr.heap.size wr).drew).trans (HBQ10.out.mono ((Below.refl wr.heap.size wr).drew).size)).size)).size)).trans (HBQ16.out.mono (((((Below.refl wr.heap.size wr).drew).trans (HBQ10.out.mono ((Below.refl wr.heap.size wr).drew).size)).trans (HBQ11.out.mono (((Below.refl wr.heap.size wr).drew).trans (HBQ10.out.mono ((Below.refl wr.heap.size wr).drew).size)).size)).trans (HBQ12.out.mono ((((Below.refl wr.heap.size wr).drew).trans (HBQ10.out.mono ((Below.refl wr.heap.size wr).drew).size)).trans (HBQ11.out.mono (((Below.refl wr.heap.size wr).drew).trans (HBQ10.out.mono ((Below.refl wr.heap.size wr).drew).size)).size)).size)).size)).trans (HBQ17.out.mono ((((((Below.refl wr.heap.size wr).drew).trans (HBQ10.out.mono ((Below.refl wr.heap.size wr).drew).size)).trans (HBQ11.out.mono (((Below.refl wr.heap.size wr).drew).trans (HBQ10.out.mono ((Below.refl wr.heap.size wr).drew).size)).size)).trans (HBQ12.out.mono ((((Below.refl wr.heap.size wr).drew).trans (HBQ10.out.mono ((Below.refl wr.heap.size wr).drew).size)).trans (HBQ11.out.mono (((Below.refl wr.heap.size wr).drew).trans (HBQ10.out.mono ((Below.refl wr.heap.size wr).drew).size)).size)).size)).trans (HBQ16.out.mono (((((Below.refl wr.heap.size wr).drew).trans (HBQ10.out.mono ((Below.refl wr.heap.size wr).drew).size)).trans (HBQ11.out.mono (((Below.refl wr.heap.size wr).drew).trans (HBQ10.out.mono ((Below.refl wr.heap.size wr).drew).size)).size)).trans (HBQ12.out.mono ((((Below.refl wr.heap.size wr).drew).trans (HBQ10.out.mono ((Below.refl wr.heap.size wr).drew).size)).trans (HBQ11.out.mono (((Below.refl wr.heap.size wr).drew).trans (HBQ10.out.mono ((Below.refl wr.heap.size wr).drew).size)).size)).size)).size)).size)).size)).mono HBX.out.size))⟩

theorem ShaOwn_walk (w : World) (A : Option Addr) (n c : Nat) (xs : List UInt8) (ha : RBytes w [.slice A n c] xs) (B : Option Addr) (m d : Nat) (bs : List UInt8) (hb : RBytes w [.slice B m d] bs) :
    Calls Try.prog 11 #[.slice A n c, .slice B m d] w (Tells w true) := by
  obtain ⟨A', c', he, hr⟩ := ha
  simp only [List.cons.injEq, Value.slice.injEq, and_true] at he
  obtain ⟨rfl, rfl, rfl⟩ := he
  obtain ⟨B', d', he, hs⟩ := hb
  simp only [List.cons.injEq, Value.slice.injEq, and_true] at he
  obtain ⟨rfl, rfl, rfl⟩ := he
  have hmax := hr.max
  have hcap := hr.cap
  have hmax2 := hs.max
  have hcap2 := hs.cap
  unfold maxLen at hmax hmax2
  by_cases hl : xs.length ≤ 300
  · by_cases hl2 : bs.length ≤ 300
    · exact ShaOwn_ok w A _ c xs B _ d bs hr hs hl hl2
    · have h1 : (xs.length : Int) ≤ 300 := by omega
      have h2 : (300 : Int) < (bs.length : Int) := by omega
      clear hr hs
      go_enter Try.func11, Try.ntmps11
      go_wp2_with fail
      refine (anchor1 w).mono ?_
      rintro e w1 ⟨rfl, hb1⟩
      go_wp2_with fail
      go_ret
      exact ⟨rfl, hb1⟩
  · have h1 : (300 : Int) < (xs.length : Int) := by omega
    clear hr hs
    go_enter Try.func11, Try.ntmps11
    go_wp2_with fail
    refine (anchor1 w).mono ?_
    rintro e w1 ⟨rfl, hb1⟩
    go_wp2_with fail
    go_ret
    exact ⟨rfl, hb1⟩
end Go.Proofs.Ytpcncogmhnncpaa
