/- The walk of locketlaw01.ShaEmpty. -/
import Derived.Test.YtpcncogmhnncpaaSha8
import Derived.Test.YtpcncogmhnncpaaRefI
namespace Go.Proofs.Ytpcncogmhnncpaa
open Go.RowKit
set_option linter.unusedVariables false
set_option linter.unusedSimpArgs false

theorem ei_bytess : EI Try.prog 43 23 (.slice none 0 0) 1 24 := EI.mk' Try.underlying43 (by kernel_rfl) rfl
theorem Parts.nil (w : World) : Parts w [] [] := ⟨rfl, fun k v bs hv _ => by simp at hv⟩
theorem Parts.append {w : World} {vs us : List Value} {bss css : List (List UInt8)} (h : Parts w vs bss) (h' : Parts w us css) : Parts w (vs ++ us) (bss ++ css) := by
  refine ⟨by rw [List.length_append, List.length_append, h.1, h'.1], fun k v bs hv hbs => ?_⟩
  by_cases hk : k < vs.length
  · rw [List.getElem?_append_left hk] at hv
    rw [List.getElem?_append_left (by rw [← h.1]; exact hk)] at hbs
    exact h.2 k v bs hv hbs
  · rw [List.getElem?_append_right (by omega)] at hv
    rw [List.getElem?_append_right (by rw [← h.1]; omega), ← h.1] at hbs
    exact h'.2 _ v bs hv hbs
theorem Parts.cells {w : World} {vs : List Value} {bss : List (List UInt8)} (h : Parts w vs bss) : ∀ u ∈ vs, u.oneCell' = true := by
  intro u hu
  obtain ⟨k, hk, rfl⟩ := List.mem_iff_getElem.1 hu
  obtain ⟨A, n, c, e, _⟩ := h.2 k vs[k] (bss[k]'(by rw [← h.1]; exact hk)) (List.getElem?_eq_getElem hk) (List.getElem?_eq_getElem _)
  rw [e]; rfl
set_option maxRecDepth 100000 in
set_option maxHeartbeats 2000000 in
theorem ShaEmpty_ok (w : World) (Ap : Option Addr) (np cp : Nat) (vs : List Value) (bss : List (List UInt8)) (hp : Rd w 1 Ap np cp vs) (hps : Parts w vs bss) :
    Calls Try.prog 13 #[.slice Ap np cp] w (Tells w true) := by
  have HP := Lib.hid hp
  have HPS := Lib.hid hps
  have hnp : np < 9223372036854775808 := by have := hp.cap; have := hp.max; simp only [maxLen] at this; omega
  have HL : Hid (np = bss.length) := Lib.hid (by have := hp.len; have := hps.1; omega)
  clear hp hps
  go_enter Try.func13, Try.ntmps13
  go_wp2_with fail
  refine (anchor1 w).mono ?_
  rintro e w1 ⟨rfl, hb1⟩
  have HB1 := Lib.hid hb1
  clear hb1
  by_cases h20 : 20 < np
  · have h20' : (20 : Int) < np := by omega
    go_wp2_with fail
    go_ret
    exact ⟨rfl, HB1.out⟩
  have h20' : (np : Int) ≤ 20 := by omega
  go_wp2_with fail
  go_loopw [3, 13] (fun s3 s13 wr => ∃ (k : Nat) (Am : Option Addr) (cm : Nat) (us : List Value) (css : List (List UInt8)), k ≤ np ∧ s3 = .slice Am (3 * k) cm ∧ s13 = .int .i64 (k : Int) ∧ Seg wr w1.heap.size 1 Am (3 * k) cm us ∧ Parts w1 us css ∧ css.flatten = (bss.take k).flatten ∧ (∀ j, j < k → ∀ bs, bss[j]? = some bs → bs.length ≤ 100) ∧ Below w1.heap.size w1 wr) (fun _ s13 _ => np - (intOf s13).toNat)
  case atStart => exact ⟨0, none, 0, [], [], by omega, rfl, rfl, Seg.nil _ _ _, Parts.nil _, by simp, fun j hj => by omega, Below.refl _ _⟩
  case round =>
    obtain ⟨k, Am, cm, us, css, hk, rfl, rfl, hsm, hpm, hfm, hle, hb⟩ := hrel
    have HSM := Lib.hid hsm
    have HPM := Lib.hid hpm
    have HFM0 := Lib.hid hfm
    have HLE := Lib.hid hle
    have HB := Lib.hid hb
    clear hsm hpm hfm hle hb
    have HBW := Lib.hid (HB1.out.trans (HB.out.mono HB1.out.size))
    by_cases hlt : k < np
    · obtain ⟨b, o, rfl, hx⟩ := (HP.out.below HBW.out).at_ (by omega)
      have hvl : k < vs.length := by have := HP.out.len; omega
      have hbl : k < bss.length := by have := HL.out; omega
      obtain ⟨Ab, nb, cb, hv, hrb⟩ := HPS.out.2 k vs[k] bss[k] (List.getElem?_eq_getElem hvl) (List.getElem?_eq_getElem hbl)
      have hcell := hx k vs[k] (List.getElem?_eq_getElem hvl)
      rw [hv] at hcell
      have HR1 := Lib.hid (hrb.below HB1.out)
      have hnb : nb < 9223372036854775808 := by have := hrb.cap; have := hrb.max; simp only [maxLen] at this; omega
      have hnl : nb = bss[k].length := by have := hrb.len; rw [bvs_length] at this; omega
      have HNL := Lib.hid hnl
      clear hx hrb hv hnl
      by_cases h100 : 100 < nb
      · have h100' : (100 : Int) < nb := by omega
        go_wp2_with fail
        go_ret
        exact ⟨rfl, HBW.out⟩
      · have h100' : (nb : Int) ≤ 100 := by omega
        have HLE2 : Hid (∀ j, j < k + 1 → ∀ bs, bss[j]? = some bs → bs.length ≤ 100) := Lib.hid (fun j hj bs hbs => by
          rcases Nat.lt_or_eq_of_le (Nat.le_of_lt_succ hj) with h | rfl
          · exact HLE.out j h bs hbs
          · rw [List.getElem?_eq_getElem hbl] at hbs; cases hbs; have := HNL.out; omega)
        have hsz : (wr.alloc (.cells #[] 5)).heap.size = wr.heap.size + 1 := by simp
        have HBA := Lib.hid (((Below.refl wr.heap.size wr).alloc (Nat.le_refl _) (.cells #[] 5)).alloc (by simp) (.cells #[.slice none 0 0, .slice Ab nb cb, .slice (some ⟨wr.heap.size, 0, none⟩) 0 0] 23))
        have HSA := Lib.hid (HSM.out.below HBA.out)
        have HP3 : Hid (Parts w1 [.slice none 0 0, .slice Ab nb cb, .slice (some ⟨wr.heap.size, 0, none⟩) 0 0] [[], bss[k], []]) := Lib.hid
          (((Parts.one (bs := []) (Seg.nil _ 0 1).rd).append (Parts.one HR1.out)).append (Parts.one (bs := []) ⟨rfl, Nat.le_refl _, by simp, fun e => (by cases e), .inl rfl⟩))
        have HRL : Hid (Rd ((wr.alloc (.cells #[] 5)).alloc (.cells #[.slice none 0 0, .slice Ab nb cb, .slice (some ⟨wr.heap.size, 0, none⟩) 0 0] 23)) 1 (some ⟨wr.heap.size + 1, 0, none⟩) 3 3 [.slice none 0 0, .slice Ab nb cb, .slice (some ⟨wr.heap.size, 0, none⟩) 0 0]) := Lib.hid (by
          have := rd_lit (wr.alloc (.cells #[] 5)) #[.slice none 0 0, .slice Ab nb cb, .slice (some ⟨wr.heap.size, 0, none⟩) 0 0] 23 1 3 rfl (by simp [maxLen])
          rw [hsz] at this
          exact this)
        clear hsz
        go_wp2_with (at_builtin; refine wpList_append_seg rfl _ _ _ _ rfl ei_bytess rfl HSA.out rfl (HRL.out.src Try.underlying43 HP3.out.cells) (by simp only [maxLen]; omega) (by omega) (by have := HB.out.size; simp; omega) ?_; intro A' c' wn hs hg _; have HS2 := Lib.hid hs; have HBN := Lib.hid ((HB.out.trans (HBA.out.mono HB.out.size)).grown hg (by have := HB.out.size; simp; omega) HSA.out.own_row); clear hs hg)
        case roundEnd =>
          refine ⟨⟨k + 1, A', c', _, css ++ [[], bss[k], []], by omega, rfl, by push_cast; rfl, HS2.out, HPM.out.append HP3.out, ?_, HLE2.out, HBN.out⟩, by simp only [intOf]; omega⟩
          rw [flatten_take_succ bss k _ (List.getElem?_eq_getElem hbl), ← HFM0.out]
          simp
    · obtain rfl : k = np := by omega
      have HFF : Hid ((bss.take k).flatten = bss.flatten) := Lib.hid (by rw [HL.out, List.take_length])
      have HFM := HFM0
      have hfl : (bss.take k).flatten.length ≤ k * 100 := Parts.len_take k 100 HLE.out
      have HLM : Hid (css.flatten.length ≤ 1099511627776) := Lib.hid (by rw [HFM.out]; omega)
      have HLF : Hid (bss.flatten.length ≤ 1099511627776) := Lib.hid (by rw [← HFF.out]; omega)
      have HBS : Hid (w.heap.size ≤ wr.heap.size) := Lib.hid HBW.out.size
      go_wp2_with fail
      refine wp_region_held_drew (S := fun w' => Below wr.heap.size wr w') (by kernel_rfl) ((Below.refl _ _).drew) (fun hHeld => ?_)
      refine held_yes (i := 0) (v := ?_) rfl (by kernel_rfl) (by kernel_rfl) (by kernel_rfl) (fun _ _ _ h => h) (by rfl) (fun w hSw => ?_) hHeld ?_
      rotate_left
      · go_simp; try with_reducible rfl
      simp only [List.setIfInBounds_toArray, List.set_cons_zero, List.set_cons_succ]
      refine held_yes (i := 3) (v := ?_) rfl (by kernel_rfl) (by kernel_rfl) (by kernel_rfl) (fun _ _ _ h => h) (by rfl) (fun w hSw => ?_) hHeld ?_
      rotate_left
      · go_simp; try with_reducible rfl
      simp only [List.setIfInBounds_toArray, List.set_cons_zero, List.set_cons_succ]
      refine held_only (i := 1) (by kernel_rfl) rfl (fun K hK => ?_)
      rw [if_pos (by rfl)]
      go_simp
      refine (sum_any _ _ _ _ _ wr.drew (HSM.out.rd.below ((Below.refl wr.heap.size wr).drew)) (HPM.out.below (HB.out.trans (((Below.refl wr.heap.size wr).drew).mono HB.out.size))) (HLM.out)).mono ?_
      rintro e wq1 ⟨A1, c1, rfl, hs1, hb1⟩
      rw [HFM.out] at hs1
      have HS1 := Lib.hid hs1
      have HBQ1 := Lib.hid hb1
      clear hs1 hb1
      go_wp2_with fail
      refine hK.out _ _ ((Below.refl wr.heap.size wr).drew.trans HBQ1.out) (fun _ => ?_)
      clear hK K
      try simp only [Act.put, List.setIfInBounds_toArray, List.set_cons_zero, List.set_cons_succ]
      refine wpAnyH_mono (S' := fun w' => Below wq1.heap.size wq1 w') (fun w' h => ((Below.refl wr.heap.size wr).drew.trans HBQ1.out).trans (h.mono (by have := HBQ1.out.size; first | exact this | simpa using this))) ?_
      have hHeld : Below wq1.heap.size wq1 wq1 := Below.refl _ _
      refine held_yes (i := 2) (v := ?_) rfl (by kernel_rfl) (by kernel_rfl) (by kernel_rfl) (fun _ _ _ h => h) (by rfl) (fun w hSw => ?_) hHeld ?_
      rotate_left
      · have kc := str_of (HS1.out.rd.below hSw); go_simp; try with_reducible rfl
      simp only [List.setIfInBounds_toArray, List.set_cons_zero, List.set_cons_succ]
      refine held_only (i := 4) (by kernel_rfl) rfl (fun K hK => ?_)
      rw [if_pos (by rfl)]
      go_simp
      refine (sum_any _ _ _ _ _ wq1 (HP.out.below ((HB1.out.trans (HB.out.mono HB1.out.size)).trans ((((Below.refl wr.heap.size wr).drew).trans (HBQ1.out.mono ((Below.refl wr.heap.size wr).drew).size)).mono HBS.out))) (HPS.out.below ((HB1.out.trans (HB.out.mono HB1.out.size)).trans ((((Below.refl wr.heap.size wr).drew).trans (HBQ1.out.mono ((Below.refl wr.heap.size wr).drew).size)).mono HBS.out))) (HLF.out)).mono ?_
      rintro e wq2 ⟨A4, c4, rfl, hs4, hb4⟩
      rw [← HFF.out] at hs4
      have HS4 := Lib.hid hs4
      have HBQ2 := Lib.hid hb4
      clear hs4 hb4
      go_wp2_with fail
      refine hK.out _ _ HBQ2.out (fun _ => ?_)
      clear hK K
      try simp only [Act.put, List.setIfInBounds_toArray, List.set_cons_zero, List.set_cons_succ]
      refine wpAnyH_mono (S' := fun w' => Below wq2.heap.size wq2 w') (fun w' h => HBQ2.out.trans (h.mono (by have := HBQ2.out.size; first | exact this | simpa using this))) ?_
      have hHeld : Below wq2.heap.size wq2 wq2 := Below.refl _ _
      refine held_yes (i := 5) (v := ?_) rfl (by kernel_rfl) (by kernel_rfl) (by kernel_rfl) (fun _ _ _ h => h) (by rfl) (fun w hSw => ?_) hHeld ?_
      rotate_left
      · have kc := str_of (HS4.out.rd.below hSw); go_simp; try with_reducible rfl
      simp only [List.setIfInBounds_toArray, List.set_cons_zero, List.set_cons_succ]
      refine held_yes (i := 6) (v := ?_) rfl (by kernel_rfl) (by kernel_rfl) (by kernel_rfl) (fun _ _ _ h => h) (by rfl) (fun w hSw => ?_) hHeld ?_
      rotate_left
      · go_simp; try with_reducible rfl
      simp only [List.setIfInBounds_toArray, List.set_cons_zero, List.set_cons_succ]
      refine held_yes (i := 7) (v := ?_) rfl (by kernel_rfl) (by kernel_rfl) (by kernel_rfl) (fun _ _ _ h => h) (by rfl) (fun w hSw => ?_) hHeld ?_
      rotate_left
      · go_simp; try with_reducible rfl
      simp only [List.setIfInBounds_toArray, List.set_cons_zero, List.set_cons_succ]
      refine held_only (i := 8) (by kernel_rfl) rfl (fun K hK => ?_)
      rw [if_pos (by rfl)]
      go_simp
      refine (sum_any none 0 0 [] [] wq2 ((Seg.nil wq2 0 1).rd) (Parts.nil wq2) (by simp)).mono ?_
      rintro e wq3 ⟨A8, c8, rfl, hs8, hb8⟩
      rw [show ([] : List (List UInt8)).flatten = [] from rfl] at hs8
      have HS8 := Lib.hid hs8
      have HBQ3 := Lib.hid hb8
      clear hs8 hb8
      go_wp2_with fail
      refine hK.out _ _ HBQ3.out (fun _ => ?_)
      clear hK K
      try simp only [Act.put, List.setIfInBounds_toArray, List.set_cons_zero, List.set_cons_succ]
      refine wpAnyH_mono (S' := fun w' => Below wq3.heap.size wq3 w') (fun w' h => HBQ3.out.trans (h.mono (by have := HBQ3.out.size; first | exact this | simpa using this))) ?_
      have hHeld : Below wq3.heap.size wq3 wq3 := Below.refl _ _
      refine held_yes (i := 9) (v := ?_) rfl (by kernel_rfl) (by kernel_rfl) (by kernel_rfl) (fun _ _ _ h => h) (by rfl) (fun w hSw => ?_) hHeld ?_
      rotate_left
      · have kc := str_of (HS8.out.rd.below hSw); go_simp; try with_reducible rfl
      simp only [List.setIfInBounds_toArray, List.set_cons_zero, List.set_cons_succ]
      refine held_only (i := 10) (by kernel_rfl) rfl (fun K hK => ?_)
      rw [if_pos (by rfl)]
      go_simp
      refine (rsum_any none 0 0 [] wq3 ((Seg.nil wq3 0 1).rd) (by omega)).mono ?_
      rintro e wq4 ⟨A10, c10, rfl, hs10, hb10⟩
      have HS10 := Lib.hid hs10
      have HBQ4 := Lib.hid hb10
      clear hs10 hb10
      go_wp2_with fail
      refine hK.out _ _ HBQ4.out (fun _ => ?_)
      clear hK K
      try simp only [Act.put, List.setIfInBounds_toArray, List.set_cons_zero, List.set_cons_succ]
      refine wpAnyH_mono (S' := fun w' => Below wq4.heap.size wq4 w') (fun w' h => HBQ4.out.trans (h.mono (by have := HBQ4.out.size; first | exact this | simpa using this))) ?_
      have hHeld : Below wq4.heap.size wq4 wq4 := Below.refl _ _
      refine held_yes (i := 11) (v := ?_) rfl (by kernel_rfl) (by kernel_rfl) (by kernel_rfl) (fun _ _ _ h => h) (by rfl) (fun w hSw => ?_) hHeld ?_
      rotate_left
      · have kc := str_of (HS10.out.rd.below hSw); go_simp; try with_reducible rfl
      simp only [List.setIfInBounds_toArray, List.set_cons_zero, List.set_cons_succ]
      refine held_yes (i := 12) (v := ?_) rfl (by kernel_rfl) (by kernel_rfl) (by kernel_rfl) (fun _ _ _ h => h) (by rfl) (fun w hSw => ?_) hHeld ?_
      rotate_left
      · go_simp; try with_reducible rfl
      simp only [List.setIfInBounds_toArray, List.set_cons_zero, List.set_cons_succ]
      refine held_yes (i := 13) (v := ?_) rfl (by kernel_rfl) (by kernel_rfl) (by kernel_rfl) (fun _ _ _ h => h) (by rfl) (fun w hSw => ?_) hHeld ?_
      rotate_left
      · go_simp; try with_reducible rfl
      simp only [List.setIfInBounds_toArray, List.set_cons_zero, List.set_cons_succ]
      refine held_yes (i := 14) (v := ?_) rfl (by kernel_rfl) (by kernel_rfl) (by kernel_rfl) (fun _ _ _ h => h) (by rfl) (fun w hSw => ?_) hHeld ?_
      rotate_left
      · go_simp; try with_reducible rfl
      simp only [List.setIfInBounds_toArray, List.set_cons_zero, List.set_cons_succ]
      refine wpAnyH_ready (rs := [15, 18]) (by kernel_rfl) (by simp) (AllReadyH.cons rfl (fun K hK => ?_) (AllReadyH.cons rfl (fun K hK => ?_) AllReadyH.nil))
      · skip
        rw [if_pos (by rfl)]
        go_simp
        refine (new_any wq4).mono ?_
        rintro e wq5 ⟨rfl, hw15⟩
        have HLV : Hid (Live wq5 wq4.heap.size none []) := Lib.hid (by rw [hw15]; exact Live.new _)
        have HBQ5 : Hid (Below wq4.heap.size wq4 wq5) := Lib.hid (by rw [hw15]; exact (Below.refl _ _).alloc (Nat.le_refl _) _)
        clear hw15
        go_wp2_with fail
        refine hK.out _ _ HBQ5.out (fun _ => ?_)
        clear hK K
        try simp only [Act.put, List.setIfInBounds_toArray, List.set_cons_zero, List.set_cons_succ]
        refine wpAnyH_mono (S' := fun w' => Below wq5.heap.size wq5 w') (fun w' h => HBQ5.out.trans (h.mono (by have := HBQ5.out.size; first | exact this | simpa using this))) ?_
        have hHeld : Below wq5.heap.size wq5 wq5 := Below.refl _ _
        refine wpAnyH_ready (rs := [16, 18]) (by kernel_rfl) (by simp) (AllReadyH.cons rfl (fun K hK => ?_) (AllReadyH.cons rfl (fun K hK => ?_) AllReadyH.nil))
        · skip
          rw [if_pos (by rfl)]
          go_simp
          refine (hsum_live _ none [] wq5 (HLV.out.below (Below.refl _ _)) (by simp)).mono ?_
          rintro e wq6 ⟨A16, c16, rfl, hs16, hb16⟩
          have HS16 := Lib.hid hs16
          have HBQ6 := Lib.hid hb16
          clear hs16 hb16
          go_wp2_with fail
          refine hK.out _ _ HBQ6.out (fun _ => ?_)
          clear hK K
          try simp only [Act.put, List.setIfInBounds_toArray, List.set_cons_zero, List.set_cons_succ]
          refine wpAnyH_mono (S' := fun w' => Below wq6.heap.size wq6 w') (fun w' h => HBQ6.out.trans (h.mono (by have := HBQ6.out.size; first | exact this | simpa using this))) ?_
          have hHeld : Below wq6.heap.size wq6 wq6 := Below.refl _ _
          refine held_yes (i := 17) (v := ?_) rfl (by kernel_rfl) (by kernel_rfl) (by kernel_rfl) (fun _ _ _ h => h) (by rfl) (fun w hSw => ?_) hHeld ?_
          rotate_left
          · have kc := str_of (HS16.out.rd.below hSw); go_simp; try with_reducible rfl
          simp only [List.setIfInBounds_toArray, List.set_cons_zero, List.set_cons_succ]
          refine held_only (i := 18) (by kernel_rfl) rfl (fun K hK => ?_)
          rw [if_pos (by rfl)]
          go_wp2_with fail
          refine world_at (F := fun wx => Below wq6.heap.size wq6 wx ∧ Rd wx 1 (some ⟨wq6.heap.size, 0, none⟩) 1 1 [.slice none 0 0]) ⟨(Below.refl _ _).alloc (Nat.le_refl _) _, rd_lit wq6 #[.slice none 0 0] _ 1 1 rfl (by simp [maxLen])⟩ (fun wq7 HF => ?_)
          have HBQ7 := Lib.hid HF.out.1
          have HR18 := Lib.hid HF.out.2
          clear HF
          refine hK.out _ _ HBQ7.out (fun _ => ?_)
          clear hK K
          try simp only [Act.put, List.setIfInBounds_toArray, List.set_cons_zero, List.set_cons_succ]
          refine wpAnyH_mono (S' := fun w' => Below wq7.heap.size wq7 w') (fun w' h => HBQ7.out.trans (h.mono (by have := HBQ7.out.size; first | exact this | simpa using this))) ?_
          have hHeld : Below wq7.heap.size wq7 wq7 := Below.refl _ _
          refine held_only (i := 19) (by kernel_rfl) rfl (fun K hK => ?_)
          rw [if_pos (by rfl)]
          go_simp
          refine (sum_one _ _ none 0 0 [] wq7 (HR18.out.below (Below.refl _ _)) (Seg.nil wq7 0 1).rd (by simp)).mono ?_
          rintro e wq8 ⟨A19, c19, rfl, hs19, hb19⟩
          have HS19 := Lib.hid hs19
          have HBQ8 := Lib.hid hb19
          clear hs19 hb19
          go_wp2_with fail
          refine hK.out _ _ HBQ8.out (fun _ => ?_)
          clear hK K
          try simp only [Act.put, List.setIfInBounds_toArray, List.set_cons_zero, List.set_cons_succ]
          refine wpAnyH_mono (S' := fun w' => Below wq8.heap.size wq8 w') (fun w' h => HBQ8.out.trans (h.mono (by have := HBQ8.out.size; first | exact this | simpa using this))) ?_
          have hHeld : Below wq8.heap.size wq8 wq8 := Below.refl _ _
          refine held_yes (i := 20) (v := ?_) rfl (by kernel_rfl) (by kernel_rfl) (by kernel_rfl) (fun _ _ _ h => h) (by rfl) (fun w hSw => ?_) hHeld ?_
          rotate_left
          · have kc := str_of (HS19.out.rd.below hSw); go_simp; try with_reducible rfl
          simp only [List.setIfInBounds_toArray, List.set_cons_zero, List.set_cons_succ]
          refine held_yes (i := 21) (v := ?_) rfl (by kernel_rfl) (by kernel_rfl) (by kernel_rfl) (fun _ _ _ h => h) (by rfl) (fun w hSw => ?_) hHeld ?_
          rotate_left
          · go_simp; try with_reducible rfl
          simp only [List.setIfInBounds_toArray, List.set_cons_zero, List.set_cons_succ]
          refine held_yes (i := 22) (v := ?_) rfl (by kernel_rfl) (by kernel_rfl) (by kernel_rfl) (fun _ _ _ h => h) (by rfl) (fun w hSw => ?_) hHeld ?_
          rotate_left
          · go_simp; try with_reducible rfl
          simp only [List.setIfInBounds_toArray, List.set_cons_zero, List.set_cons_succ]
          refine held_yes (i := 23) (v := ?_) rfl (by kernel_rfl) (by kernel_rfl) (by kernel_rfl) (fun _ _ _ h => h) (by rfl) (fun w hSw => ?_) hHeld ?_
          rotate_left
          · go_simp; try with_reducible rfl
          simp only [List.setIfInBounds_toArray, List.set_cons_zero, List.set_cons_succ]
          refine wpAnyH_done (by kernel_rfl) ?_ _
          go_wp2_with fail
          go_ret
          exact ⟨rfl, ((HB1.out.trans (HB.out.mono HB1.out.size)).trans (((((((((((Below.refl wr.heap.size wr).drew).trans (HBQ1.out.mono ((Below.refl wr.heap.size wr).drew).size)).trans (HBQ2.out.mono (((Below.refl wr.heap.size wr).drew).trans (HBQ1.out.mono ((Below.refl wr.heap.size wr).drew).size)).size)).trans (HBQ3.out.mono ((((Below.refl wr.heap.size wr).drew).trans (HBQ1.out.mono ((Below.refl wr.heap.size wr).drew).size)).trans (HBQ2.out.mono (((Below.refl wr.heap.size wr).drew).trans (HBQ1.out.mono ((Below.refl wr.heap.size wr).drew).size)).size)).size)).trans (HBQ4.out.mono (((((Below.refl wr.heap.size wr).drew).trans (HBQ1.out.mono ((Below.refl wr.heap.size wr).drew).size)).trans (HBQ2.out.mono (((Below.refl wr.heap.size wr).drew).trans (HBQ1.out.mono ((Below.refl wr.heap.size wr).drew).size)).size)).trans (HBQ3.out.mono ((((Below.refl wr.heap.size wr).drew).trans (HBQ1.out.mono ((Below.refl wr.heap.size wr).drew).size)).trans (HBQ2.out.mono (((Below.refl wr.heap.size wr).drew).trans (HBQ1.out.mono ((Below.refl wr.heap.size wr).drew).size)).size)).size)).size)).trans (HBQ5.out.mono ((((((Below.refl wr.heap.size wr).drew).trans (HBQ1.out.mono ((Below.refl wr.heap.size wr).drew).size)).trans (HBQ2.out.mono (((Below.refl wr.heap.size wr).drew).trans (HBQ1.out.mono ((Below.refl wr.heap.size wr).drew).size)).size)).trans (HBQ3.out.mono ((((Below.refl wr.heap.size wr).drew).trans (HBQ1.out.mono ((Below.refl wr.heap.size wr).drew).size)).trans (HBQ2.out.mono (((Below.refl wr.heap.size wr).drew).trans (HBQ1.out.mono ((Below.refl wr.heap.size wr).drew).size)).size)).size)).trans (HBQ4.out.mono (((((Below.refl wr.heap.size wr).drew).trans (HBQ1.out.mono ((Below.refl wr.heap.size wr).drew).size)).trans (HBQ2.out.mono (((Below.refl wr.heap.size wr).drew).trans (HBQ1.out.mono ((Below.refl wr.heap.size wr).drew).size)).size)).trans (HBQ3.out.mono ((((Below.refl wr.heap.size wr).drew).trans (HBQ1.out.mono ((Below.refl wr.heap.size wr).drew).size)).trans (HBQ2.out.mono (((Below.refl wr.heap.size wr).drew).trans (HBQ1.out.mono ((Below.refl wr.heap.size wr).drew).size)).size)).size)).size)).size)).trans (HBQ6.out.mono (((((((Below.refl wr.heap.size wr).drew).trans (HBQ1.out.mono ((Below.refl wr.heap.size wr).drew).size)).trans (HBQ2.out.mono (((Below.refl wr.heap.size wr).drew).trans (HBQ1.out.mono ((Below.refl wr.heap.size wr).drew).size)).size)).trans (HBQ3.out.mono ((((Below.refl wr.heap.size wr).drew).trans (HBQ1.out.mono ((Below.refl wr.heap.size wr).drew).size)).trans (HBQ2.out.mono (((Below.refl wr.heap.size wr).drew).trans (HBQ1.out.mono ((Below.refl wr.heap.size wr).drew).size)).size)).size)).trans (HBQ4.out.mono (((((Below.refl wr.heap.size wr).drew).trans (HBQ1.out.mono ((Below.refl wr.heap.size wr).drew).size)).trans (HBQ2.out.mono (((Below.refl wr.heap.size wr).drew).trans (HBQ1.out.mono ((Below.refl wr.heap.size wr).drew).size)).size)).trans (HBQ3.out.mono ((((Below.refl wr.heap.size wr).drew).trans (HBQ1.out.mono ((Below.refl wr.heap.size wr).drew).size)).trans (HBQ2.out.mono (((Below.refl wr.heap.size wr).drew).trans (HBQ1.out.mono ((Below.refl wr.heap.size wr).drew).size)).size)).size)).size)).trans (HBQ5.out.mono ((((((Below.refl wr.heap.size wr).drew).trans (HBQ1.out.mono ((Below.refl wr.heap.size wr).drew).size)).trans (HBQ2.out.mono (((Below.refl wr.heap.size wr).drew).trans (HBQ1.out.mono ((Below.refl wr.heap.size wr).drew).size)).size)).trans (HBQ3.out.mono ((((Below.refl wr.heap.size wr).drew).trans (HBQ1.out.mono ((Below.refl wr.heap.size wr).drew).size)).trans (HBQ2.out.mono (((Below.refl wr.heap.size wr).drew).trans (HBQ1.out.mono ((Below.refl wr.heap.size wr).drew).size)).size)).size)).trans (HBQ4.out.mono (((((Below.refl wr.heap.size wr).drew).trans (HBQ1.out.mono ((Below.refl wr.heap.size wr).drew).size)).trans (HBQ2.out.mono (((Below.refl wr.heap.size wr).drew).trans (HBQ1.out.mono ((Below.refl wr.heap.size wr).drew).size)).size)).trans (HBQ3.out.mono ((((Below.refl wr.heap.size wr).drew).trans (HBQ1.out.mono ((Below.refl wr.heap.size wr).drew).size)).trans (HBQ2.out.mono (((Below.refl wr.heap.size wr).drew).trans (HBQ1.out.mono ((Below.refl wr.heap.size wr).drew).size)).size)).size)).size)).size)).size)).trans (HBQ7.out.mono ((((((((Below.refl wr.heap.size wr).drew).trans (HBQ1.out.mono ((Below.refl wr.heap.size wr).drew).size)).trans (HBQ2.out.mono (((Below.refl wr.heap.size wr).drew).trans (HBQ1.out.mono ((Below.refl wr.heap.size wr).drew).size)).size)).trans (HBQ3.out.mono ((((Below.refl wr.heap.size wr).drew).trans (HBQ1.out.mono ((Below.refl wr.heap.size wr).drew).size)).trans (HBQ2.out.mono (((Below.refl wr.heap.size wr).drew).trans (HBQ1.out.mono ((Below.refl wr.heap.size wr).drew).size)).size)).size)).trans (HBQ4.out.mono (((((Below.refl wr.heap.size wr).drew).trans (HBQ1.out.mono ((Below.refl wr.heap.size wr).drew).size)).trans (HBQ2.out.mono (((Below.refl wr.heap.size wr).drew).trans (HBQ1.out.mono ((Below.refl wr.heap.size wr).drew).size)).size)).trans (HBQ3.out.mono ((((Below.refl wr.heap.size wr).drew).trans (HBQ1.out.mono ((Below.refl wr.heap.size wr).drew).size)).trans (HBQ2.out.mono (((Below.refl wr.heap.size wr).drew).trans (HBQ1.out.mono ((Below.refl wr.heap.size wr).drew).size)).size)).size)).size)).trans (HBQ5.out.mono ((((((Below.refl wr.heap.size wr).drew).trans (HBQ1.out.mono ((Below.refl wr.heap.size wr).drew).size)).trans (HBQ2.out.mono (((Below.refl wr.heap.size wr).drew).trans (HBQ1.out.mono ((Below.refl wr.heap.size wr).drew).size)).size)).trans (HBQ3.out.mono ((((Below.refl wr.heap.size wr).drew).trans (HBQ1.out.mono ((Below.refl wr.heap.size wr).drew).size)).trans (HBQ2.out.mono (((Below.refl wr.heap.size wr).drew).trans (HBQ1.out.mono ((Below.refl wr.heap.size wr).drew).size)).size)).size)).trans (HBQ4.out.mono (((((Below.refl wr.heap.size wr).drew).trans (HBQ1.out.mono ((Below.refl wr.heap.size wr).drew).size)).trans (HBQ2.out.mono (((Below.refl wr.heap.size wr).drew).trans (HBQ1.out.mono ((Below.refl wr.heap.size wr).drew).size)).size)).trans (HBQ3.out.mono ((((Below.refl wr.heap.size wr).drew).trans (HBQ1.out.mono ((Below.refl wr.heap.size wr).drew).size)).trans (HBQ2.out.mono (((Below.refl wr.heap.size wr).drew).trans (HBQ1.out.mono ((Below.refl wr.heap.size wr).drew).size)).size)).size)).size)).size)).trans (HBQ6.out.mono (((((((Below.refl wr.heap.size wr).drew).trans (HBQ1.out.mono ((Below.refl wr.heap.size wr).drew).size)).trans (HBQ2.out.mono (((Below.refl wr.heap.size wr).drew).trans (HBQ1.out.mono ((Below.refl wr.heap.size wr).drew).size)).size)).trans (HBQ3.out.mono ((((Below.refl wr.heap.size wr).drew).trans (HBQ1.out.mono ((Below.refl wr.heap.size wr).drew).size)).trans (HBQ2.out.mono (((Below.refl wr.heap.size wr).drew).trans (HBQ1.out.mono ((Below.refl wr.heap.size wr).drew).size)).size)).size)).trans (HBQ4.out.mono (((((Below.refl wr.heap.size wr).drew).trans (HBQ1.out.mono ((Below.refl wr.heap.size wr).drew).size)).trans (HBQ2.out.mono (((Below.refl wr.heap.size wr).drew).trans (HBQ1.out.mono ((Below.refl wr.heap.size wr).drew).size)).size)).trans (HBQ3.out.mono ((((Below.refl wr.heap.size wr).drew).trans (HBQ1.out.mono ((Below.refl wr.heap.size wr).drew).size)).trans (HBQ2.out.mono (((Below.refl wr.heap.size wr).drew).trans (HBQ1.out.mono ((Below.refl wr.heap.size wr).drew).size)).size)).size)).size)).trans (HBQ5.out.mono ((((((Below.refl wr.heap.size wr).drew).trans (HBQ1.out.mono ((Below.refl wr.heap.size wr).drew).size)).trans (HBQ2.out.mono (((Below.refl wr.heap.size wr).drew).trans (HBQ1.out.mono ((Below.refl wr.heap.size wr).drew).size)).size)).trans (HBQ3.out.mono ((((Below.refl wr.heap.size wr).drew).trans (HBQ1.out.mono ((Below.refl wr.heap.size wr).drew).size)).trans (HBQ2.out.mono (((Below.refl wr.heap.size wr).drew).trans (HBQ1.out.mono ((Below.refl wr.heap.size wr).drew).size)).size)).size)).trans (HBQ4.out.mono (((((Below.refl wr.heap.size wr).drew).trans (HBQ1.out.mono ((Below.refl wr.heap.size wr).drew).size)).trans (HBQ2.out.mono (((Below.refl wr.heap.size wr).drew).trans (HBQ1.out.mono ((Below.refl wr.heap.size wr).drew).size)).size)).trans (HBQ3.out.mono ((((Below.refl wr.heap.size wr).drew).trans (HBQ1.out.mono ((Below.refl wr.heap.size wr).drew).size)).trans (HBQ2.out.mono (((Below.refl wr.heap.size wr).drew).trans (HBQ1.out.mono ((Below.refl wr.heap.size wr).drew).size)).size)).size)).size)).size)).size)).size)).trans (HBQ8.out.mono (((((((((Below.refl wr.heap.size wr).drew).trans (HBQ1.out.mono ((Below.refl wr.heap.size wr).drew).size)).trans (HBQ2.out.mono (((Below.refl wr.heap.size wr).drew).trans (HBQ1.out.mono ((Below.refl wr.heap.size wr).drew).size)).size)).trans (HBQ3.out.mono ((((Below.refl wr.heap.size wr).drew).trans (HBQ1.out.mono ((Below.refl wr.heap.size wr).drew).size)).trans (HBQ2.out.mono (((Below.refl wr.heap.size wr).drew).trans (HBQ1.out.mono ((Below.refl wr.heap.size wr).drew).size)).size)).size)).trans (HBQ4.out.mono (((((Below.refl wr.heap.size wr).drew).trans (HBQ1.out.mono ((Below.refl wr.heap.size wr).drew).size)).trans (HBQ2.out.mono (((Below.refl wr.heap.size wr).drew).trans (HBQ1.out.mono ((Below.refl wr.heap.size wr).drew).size)).size)).trans (HBQ3.out.mono ((((Below.refl wr.heap.size wr).drew).trans (HBQ1.out.mono ((Below.refl wr.heap.size wr).drew).size)).trans (HBQ2.out.mono (((Below.refl wr.heap.size wr).drew).trans (HBQ1.out.mono ((Below.refl wr.heap.size wr).drew).size)).size)).size)).size)).trans (HBQ5.out.mono ((((((Below.refl wr.heap.size wr).drew).trans (HBQ1.out.mono ((Below.refl wr.heap.size wr).drew).size)).trans (HBQ2.out.mono (((Below.refl wr.heap.size wr).drew).trans (HBQ1.out.mono ((Below.refl wr.heap.size wr).drew).size)).size)).trans (HBQ3.out.mono ((((Below.refl wr.heap.size wr).drew).trans (HBQ1.out.mono ((Below.refl wr.heap.size wr).drew).size)).trans (HBQ2.out.mono (((Below.refl wr.heap.size wr).drew).trans (HBQ1.out.mono ((Below.refl wr.heap.size wr).drew).size)).size)).size)).trans (HBQ4.out.mono (((((Below.refl wr.heap.size wr).drew).trans (HBQ1.out.mono ((Below.refl wr.heap.size wr).drew).size)).trans (HBQ2.out.mono (((Below.refl wr.heap.size wr).drew).trans (HBQ1.out.mono ((Below.refl wr.heap.size wr).drew).size)).size)).trans (HBQ3.out.mono ((((Below.refl wr.heap.size wr).drew).trans (HBQ1.out.mono ((Below.refl wr.heap.size wr).drew).size)).trans (HBQ2.out.mono (((Below.refl wr.heap.size wr).drew).trans (HBQ1.out.mono ((Below.refl wr.heap.size wr).drew).size)).size)).size)).size)).size)).trans (HBQ6.out.mono (((((((Below.refl wr.heap.size wr).drew).trans (HBQ1.out.mono ((Below.refl wr.heap.size wr).drew).size)).trans (HBQ2.out.mono (((Below.refl wr.heap.size wr).drew).trans (HBQ1.out.mono ((Below.refl wr.heap.size wr).drew).size)).size)).trans (HBQ3.out.mono ((((Below.refl wr.heap.size wr).drew).trans (HBQ1.out.mono ((Below.refl wr.heap.size wr).drew).size)).trans (HBQ2.out.mono (((Below.refl wr.heap.size wr).drew).trans (HBQ1.out.mono ((Below.refl wr.heap.size wr).drew).size)).size)).size)).trans (HBQ4.out.mono (((((Below.refl wr.heap.size wr).drew).trans (HBQ1.out.mono ((Below.refl wr.heap.size wr).drew).size)).trans (HBQ2.out.mono (((Below.refl wr.heap.size wr).drew).trans (HBQ1.out.mono ((Below.refl wr.heap.size wr).drew).size)).size)).trans (HBQ3.out.mono ((((Below.refl wr.heap.size wr).drew).trans (HBQ1.out.mono ((Below.refl wr.heap.size wr).drew).size)).trans (HBQ2.out.mono (((Below.refl wr.heap.size wr).drew).trans (HBQ1.out.mono ((Below.refl wr.heap.size wr).drew).size)).size)).size)).size)).trans (HBQ5.out.mono ((((((Below.refl wr.heap.size wr).drew).trans (HBQ1.out.mono ((Below.refl wr.heap.size wr).drew).size)).trans (HBQ2.out.mono (((Below.refl wr.heap.size wr).drew).trans (HBQ1.out.mono ((Below.refl wr.heap.size wr).drew).size)).size)).trans (HBQ3.out.mono ((((Below.refl wr.heap.size wr).drew).trans (HBQ1.out.mono ((Below.refl wr.heap.size wr).drew).size)).trans (HBQ2.out.mono (((Below.refl wr.heap.size wr).drew).trans (HBQ1.out.mono ((Below.refl wr.heap.size wr).drew).size)).size)).size)).trans (HBQ4.out.mono (((((Below.refl wr.heap.size wr).drew).trans (HBQ1.out.mono ((Below.refl wr.heap.size wr).drew).size)).trans (HBQ2.out.mono (((Below.refl wr.heap.size wr).drew).trans (HBQ1.out.mono ((Below.refl wr.heap.size wr).drew).size)).size)).trans (HBQ3.out.mono ((((Below.refl wr.heap.size wr).drew).trans (HBQ1.out.mono ((Below.refl wr.heap.size wr).drew).size)).trans (HBQ2.out.mono (((Below.refl wr.heap.size wr).drew).trans (HBQ1.out.mono ((Below.refl wr.heap.size wr).drew).size)).size)).size)).size)).size)).size)).trans (HBQ7.out.mono ((((((((Below.refl wr.heap.size wr).drew).trans (HBQ1.out.mono ((Below.refl wr.heap.size wr).drew).size)).trans (HBQ2.out.mono (((Below.refl wr.heap.size wr).drew).trans (HBQ1.out.mono ((Below.refl wr.heap.size wr).drew).size)).size)).trans (HBQ3.out.mono ((((Below.refl wr.heap.size wr).drew).trans (HBQ1.out.mono ((Below.refl wr.heap.size wr).drew).size)).trans (HBQ2.out.mono (((Below.refl wr.heap.size wr).drew).trans (HBQ1.out.mono ((Below.refl wr.heap.size wr).drew).size)).size)).size)).trans (HBQ4.out.mono (((((Below.refl wr.heap.size wr).drew).trans (HBQ1.out.mono ((Below.refl wr.heap.size wr).drew).size)).trans (HBQ2.out.mono (((Below.refl wr.heap.size wr).drew).trans (HBQ1.out.mono ((Below.refl wr.heap.size wr).drew).size)).size)).trans (HBQ3.out.mono ((((Below.refl wr.heap.size wr).drew).trans (HBQ1.out.mono ((Below.refl wr.heap.size wr).drew).size)).trans (HBQ2.out.mono (((Below.refl wr.heap.size wr).drew).trans (HBQ1.out.mono ((Below.refl wr.heap.size wr).drew).size)).size)).size)).size)).trans (HBQ5.out.mono ((((((Below.refl wr.heap.size wr).drew).trans (HBQ1.out.mono ((Below.refl wr.heap.size wr).drew).size)).trans (HBQ2.out.mono (((Below.refl wr.heap.size wr).drew).trans (HBQ1.out.mono ((Below.refl wr.heap.size wr).drew).size)).size)).trans (HBQ3.out.mono ((((Below.refl wr.heap.size wr).drew).trans (HBQ1.out.mono ((Below.refl wr.heap.size wr).drew).size)).trans (HBQ2.out.mono (((Below.refl wr.heap.size wr).drew).trans (HBQ1.out.mono ((Below.refl wr.heap.size wr).drew).size)).size)).size)).trans (HBQ4.out.mono (((((Below.refl wr.heap.size wr).drew).trans (HBQ1.out.mono ((Below.refl wr.heap.size wr).drew).size)).trans (HBQ2.out.mono (((Below.refl wr.heap.size wr).drew).trans (HBQ1.out.mono ((Below.refl wr.heap.size wr).drew).size)).size)).trans (HBQ3.out.mono ((((Below.refl wr.heap.size wr).drew).trans (HBQ1.out.mono ((Below.refl wr.heap.size wr).drew).size)).trans (HBQ2.out.mono (((Below.refl wr.heap.size wr).drew).trans (HBQ1.out.mono ((Below.refl wr.heap.size wr).drew).size)).size)).size)).size)).size)).trans (HBQ6.out.mono (((((((Below.refl wr.heap.size wr).drew).trans (HBQ1.out.mono ((Below.refl wr.heap.size wr).drew).size)).trans (HBQ2.out.mono (((Below.refl wr.heap.size wr).drew).trans (HBQ1.out.mono ((Below.refl wr.heap.size wr).drew).size)).size)).trans (HBQ3.out.mono ((((Below.refl wr.heap.size wr).drew).trans (HBQ1.out.mono ((Below.refl wr.heap.size wr).drew).size)).trans (HBQ2.out.mono (((Below.refl wr.heap.size wr).drew).trans (HBQ1.out.mono ((Below.refl wr.heap.size wr).drew).size)).size)).size)).trans (HBQ4.out.mono (((((Below.refl wr.heap.size wr).drew).trans (HBQ1.out.mono ((Below.refl wr.heap.size wr).drew).size)).trans (HBQ2.out.mono (((Below.refl wr.heap.size wr).drew).trans (HBQ1.out.mono ((Below.refl wr.heap.size wr).drew).size)).size)).trans (HBQ3.out.mono ((((Below.refl wr.heap.size wr).drew).trans (HBQ1.out.mono ((Below.refl wr.heap.size wr).drew).size)).trans (HBQ2.out.mono (((Below.refl wr.heap.size wr).drew).trans (HBQ1.out.mono ((Below.refl wr.heap.size wr).drew).size)).size)).size)).size)).trans (HBQ5.out.mono ((((((Below.refl wr.heap.size wr).drew).trans (HBQ1.out.mono ((Below.refl wr.heap.size wr).drew).size)).trans (HBQ2.out.mono (((Below.refl wr.heap.size wr).drew).trans (HBQ1.out.mono ((Below.refl wr.heap.size wr).drew).size)).size)).trans (HBQ3.out.mono ((((Below.refl wr.heap.size wr).drew).trans (HBQ1.out.mono ((Below.refl wr.heap.size wr).drew).size)).trans (HBQ2.out.mono (((Below.refl wr.heap.size wr).drew).trans (HBQ1.out.mono ((Below.refl wr.heap.size wr).drew).size)).size)).size)).trans (HBQ4.out.mono (((((Below.refl wr.heap.size wr).drew).trans (HBQ1.out.mono ((Below.refl wr.heap.size wr).drew).size)).trans (HBQ2.out.mono (((Below.refl wr.heap.size wr).drew).trans (HBQ1.out.mono ((Below.refl wr.heap.size wr).drew).size)).size)).trans (HBQ3.out.mono ((((Below.refl wr.heap.size wr).drew).trans (HBQ1.out.mono ((Below.refl wr.heap.size wr).drew).size)).trans (HBQ2.out.mono (((Below.refl wr.heap.size wr).drew).trans (HBQ1.out.mono ((Below.refl wr.heap.size wr).drew).size)).size)).size)).size)).size)).size)).size)).size)).mono HBS.out))⟩
        · skip
          rw [if_pos (by rfl)]
          go_wp2_with fail
          refine world_at (F := fun wx => Below wq5.heap.size wq5 wx ∧ Rd wx 1 (some ⟨wq5.heap.size, 0, none⟩) 1 1 [.slice none 0 0]) ⟨(Below.refl _ _).alloc (Nat.le_refl _) _, rd_lit wq5 #[.slice none 0 0] _ 1 1 rfl (by simp [maxLen])⟩ (fun wq9 HF => ?_)
          have HBQ9 := Lib.hid HF.out.1
          have HR18 := Lib.hid HF.out.2
          clear HF
          refine hK.out _ _ HBQ9.out (fun _ => ?_)
          clear hK K
          try simp only [Act.put, List.setIfInBounds_toArray, List.set_cons_zero, List.set_cons_succ]
          refine wpAnyH_mono (S' := fun w' => Below wq9.heap.size wq9 w') (fun w' h => HBQ9.out.trans (h.mono (by have := HBQ9.out.size; first | exact this | simpa using this))) ?_
          have hHeld : Below wq9.heap.size wq9 wq9 := Below.refl _ _
          refine held_only (i := 16) (by kernel_rfl) rfl (fun K hK => ?_)
          rw [if_pos (by rfl)]
          go_simp
          refine (hsum_live _ none [] wq9 (HLV.out.below HBQ9.out) (by simp)).mono ?_
          rintro e wq10 ⟨A16, c16, rfl, hs16, hb16⟩
          have HS16 := Lib.hid hs16
          have HBQ10 := Lib.hid hb16
          clear hs16 hb16
          go_wp2_with fail
          refine hK.out _ _ HBQ10.out (fun _ => ?_)
          clear hK K
          try simp only [Act.put, List.setIfInBounds_toArray, List.set_cons_zero, List.set_cons_succ]
          refine wpAnyH_mono (S' := fun w' => Below wq10.heap.size wq10 w') (fun w' h => HBQ10.out.trans (h.mono (by have := HBQ10.out.size; first | exact this | simpa using this))) ?_
          have hHeld : Below wq10.heap.size wq10 wq10 := Below.refl _ _
          refine held_yes (i := 17) (v := ?_) rfl (by kernel_rfl) (by kernel_rfl) (by kernel_rfl) (fun _ _ _ h => h) (by rfl) (fun w hSw => ?_) hHeld ?_
          rotate_left
          · have kc := str_of (HS16.out.rd.below hSw); go_simp; try with_reducible rfl
          simp only [List.setIfInBounds_toArray, List.set_cons_zero, List.set_cons_succ]
          refine held_only (i := 19) (by kernel_rfl) rfl (fun K hK => ?_)
          rw [if_pos (by rfl)]
          go_simp
          refine (sum_one _ _ none 0 0 [] wq10 (HR18.out.below HBQ10.out) (Seg.nil wq10 0 1).rd (by simp)).mono ?_
          rintro e wq11 ⟨A19, c19, rfl, hs19, hb19⟩
          have HS19 := Lib.hid hs19
          have HBQ11 := Lib.hid hb19
          clear hs19 hb19
          go_wp2_with fail
          refine hK.out _ _ HBQ11.out (fun _ => ?_)
          clear hK K
          try simp only [Act.put, List.setIfInBounds_toArray, List.set_cons_zero, List.set_cons_succ]
          refine wpAnyH_mono (S' := fun w' => Below wq11.heap.size wq11 w') (fun w' h => HBQ11.out.trans (h.mono (by have := HBQ11.out.size; first | exact this | simpa using this))) ?_
          have hHeld : Below wq11.heap.size wq11 wq11 := Below.refl _ _
          refine held_yes (i := 20) (v := ?_) rfl (by kernel_rfl) (by kernel_rfl) (by kernel_rfl) (fun _ _ _ h => h) (by rfl) (fun w hSw => ?_) hHeld ?_
          rotate_left
          · have kc := str_of (HS19.out.rd.below hSw); go_simp; try with_reducible rfl
          simp only [List.setIfInBounds_toArray, List.set_cons_zero, List.set_cons_succ]
          refine held_yes (i := 21) (v := ?_) rfl (by kernel_rfl) (by kernel_rfl) (by kernel_rfl) (fun _ _ _ h => h) (by rfl) (fun w hSw => ?_) hHeld ?_
          rotate_left
          · go_simp; try with_reducible rfl
          simp only [List.setIfInBounds_toArray, List.set_cons_zero, List.set_cons_succ]
          refine held_yes (i := 22) (v := ?_) rfl (by kernel_rfl) (by kernel_rfl) (by kernel_rfl) (fun _ _ _ h => h) (by rfl) (fun w hSw => ?_) hHeld ?_
          rotate_left
          · go_simp; try with_reducible rfl
          simp only [List.setIfInBounds_toArray, List.set_cons_zero, List.set_cons_succ]
          refine held_yes (i := 23) (v := ?_) rfl (by kernel_rfl) (by kernel_rfl) (by kernel_rfl) (fun _ _ _ h => h) (by rfl) (fun w hSw => ?_) hHeld ?_
          rotate_left
          · go_simp; try with_reducible rfl
          simp only [List.setIfInBounds_toArray, List.set_cons_zero, List.set_cons_succ]
          refine wpAnyH_done (by kernel_rfl) ?_ _
          go_wp2_with fail
          go_ret
          exact ⟨rfl, ((HB1.out.trans (HB.out.mono HB1.out.size)).trans (((((((((((Below.refl wr.heap.size wr).drew).trans (HBQ1.out.mono ((Below.refl wr.heap.size wr).drew).size)).trans (HBQ2.out.mono (((Below.refl wr.heap.size wr).drew).trans (HBQ1.out.mono ((Below.refl wr.heap.size wr).drew).size)).size)).trans (HBQ3.out.mono ((((Below.refl wr.heap.size wr).drew).trans (HBQ1.out.mono ((Below.refl wr.heap.size wr).drew).size)).trans (HBQ2.out.mono (((Below.refl wr.heap.size wr).drew).trans (HBQ1.out.mono ((Below.refl wr.heap.size wr).drew).size)).size)).size)).trans (HBQ4.out.mono (((((Below.refl wr.heap.size wr).drew).trans (HBQ1.out.mono ((Below.refl wr.heap.size wr).drew).size)).trans (HBQ2.out.mono (((Below.refl wr.heap.size wr).drew).trans (HBQ1.out.mono ((Below.refl wr.heap.size wr).drew).size)).size)).trans (HBQ3.out.mono ((((Below.refl wr.heap.size wr).drew).trans (HBQ1.out.mono ((Below.refl wr.heap.size wr).drew).size)).trans (HBQ2.out.mono (((Below.refl wr.heap.size wr).drew).trans (HBQ1.out.mono ((Below.refl wr.heap.size wr).drew).size)).size)).size)).size)).trans (HBQ5.out.mono ((((((Below.refl wr.heap.size wr).drew).trans (HBQ1.out.mono ((Below.refl wr.heap.size wr).drew).size)).trans (HBQ2.out.mono (((Below.refl wr.heap.size wr).drew).trans (HBQ1.out.mono ((Below.refl wr.heap.size wr).drew).size)).size)).trans (HBQ3.out.mono ((((Below.refl wr.heap.size wr).drew).trans (HBQ1.out.mono ((Below.refl wr.heap.size wr).drew).size)).trans (HBQ2.out.mono (((Below.refl wr.heap.size wr).drew).trans (HBQ1.out.mono ((Below.refl wr.heap.size wr).drew).size)).size)).size)).trans (HBQ4.out.mono (((((Below.refl wr.heap.size wr).drew).trans (HBQ1.out.mono ((Below.refl wr.heap.size wr).drew).size)).trans (HBQ2.out.mono (((Below.refl wr.heap.size wr).drew).trans (HBQ1.out.mono ((Below.refl wr.heap.size wr).drew).size)).size)).trans (HBQ3.out.mono ((((Below.refl wr.heap.size wr).drew).trans (HBQ1.out.mono ((Below.refl wr.heap.size wr).drew).size)).trans (HBQ2.out.mono (((Below.refl wr.heap.size wr).drew).trans (HBQ1.out.mono ((Below.refl wr.heap.size wr).drew).size)).size)).size)).size)).size)).trans (HBQ9.out.mono (((((((Below.refl wr.heap.size wr).drew).trans (HBQ1.out.mono ((Below.refl wr.heap.size wr).drew).size)).trans (HBQ2.out.mono (((Below.refl wr.heap.size wr).drew).trans (HBQ1.out.mono ((Below.refl wr.heap.size wr).drew).size)).size)).trans (HBQ3.out.mono ((((Below.refl wr.heap.size wr).drew).trans (HBQ1.out.mono ((Below.refl wr.heap.size wr).drew).size)).trans (HBQ2.out.mono (((Below.refl wr.heap.size wr).drew).trans (HBQ1.out.mono ((Below.refl wr.heap.size wr).drew).size)).size)).size)).trans (HBQ4.out.mono (((((Below.refl wr.heap.size wr).drew).trans (HBQ1.out.mono ((Below.refl wr.heap.size wr).drew).size)).trans (HBQ2.out.mono (((Below.refl wr.heap.size wr).drew).trans (HBQ1.out.mono ((Below.refl wr.heap.size wr).drew).size)).size)).trans (HBQ3.out.mono ((((Below.refl wr.heap.size wr).drew).trans (HBQ1.out.mono ((Below.refl wr.heap.size wr).drew).size)).trans (HBQ2.out.mono (((Below.refl wr.heap.size wr).drew).trans (HBQ1.out.mono ((Below.refl wr.heap.size wr).drew).size)).size)).size)).size)).trans (HBQ5.out.mono ((((((Below.refl wr.heap.size wr).drew).trans (HBQ1.out.mono ((Below.refl wr.heap.size wr).drew).size)).trans (HBQ2.out.mono (((Below.refl wr.heap.size wr).drew).trans (HBQ1.out.mono ((Below.refl wr.heap.size wr).drew).size)).size)).trans (HBQ3.out.mono ((((Below.refl wr.heap.size wr).drew).trans (HBQ1.out.mono ((Below.refl wr.heap.size wr).drew).size)).trans (HBQ2.out.mono (((Below.refl wr.heap.size wr).drew).trans (HBQ1.out.mono ((Below.refl wr.heap.size wr).drew).size)).size)).size)).trans (HBQ4.out.mono (((((Below.refl wr.heap.size wr).drew).trans (HBQ1.out.mono ((Below.refl wr.heap.size wr).drew).size)).trans (HBQ2.out.mono (((Below.refl wr.heap.size wr).drew).trans (HBQ1.out.mono ((Below.refl wr.heap.size wr).drew).size)).size)).trans (HBQ3.out.mono ((((Below.refl wr.heap.size wr).drew).trans (HBQ1.out.mono ((Below.refl wr.heap.size wr).drew).size)).trans (HBQ2.out.mono (((Below.refl wr.heap.size wr).drew).trans (HBQ1.out.mono ((Below.refl wr.heap.size wr).drew).size)).size)).size)).size)).size)).size)).trans (HBQ10.out.mono ((((((((Below.refl wr.heap.size wr).drew).trans (HBQ1.out.mono ((Below.refl wr.heap.size wr).drew).size)).trans (HBQ2.out.mono (((Below.refl wr.heap.size wr).drew).trans (HBQ1.out.mono ((Below.refl wr.heap.size wr).drew).size)).size)).trans (HBQ3.out.mono ((((Below.refl wr.heap.size wr).drew).trans (HBQ1.out.mono ((Below.refl wr.heap.size wr).drew).size)).trans (HBQ2.out.mono (((Below.refl wr.heap.size wr).drew).trans (HBQ1.out.mono ((Below.refl wr.heap.size wr).drew).size)).size)).size)).trans (HBQ4.out.mono (((((Below.refl wr.heap.size wr).drew).trans (HBQ1.out.mono ((Below.refl wr.heap.size wr).drew).size)).trans (HBQ2.out.mono (((Below.refl wr.heap.size wr).drew).trans (HBQ1.out.mono ((Below.refl wr.heap.size wr).drew).size)).size)).trans (HBQ3.out.mono ((((Below.refl wr.heap.size wr).drew).trans (HBQ1.out.mono ((Below.refl wr.heap.size wr).drew).size)).trans (HBQ2.out.mono (((Below.refl wr.heap.size wr).drew).trans (HBQ1.out.mono ((Below.refl wr.heap.size wr).drew).size)).size)).size)).size)).trans (HBQ5.out.mono ((((((Below.refl wr.heap.size wr).drew).trans (HBQ1.out.mono ((Below.refl wr.heap.size wr).drew).size)).trans (HBQ2.out.mono (((Below.refl wr.heap.size wr).drew).trans (HBQ1.out.mono ((Below.refl wr.heap.size wr).drew).size)).size)).trans (HBQ3.out.mono ((((Below.refl wr.heap.size wr).drew).trans (HBQ1.out.mono ((Below.refl wr.heap.size wr).drew).size)).trans (HBQ2.out.mono (((Below.refl wr.heap.size wr).drew).trans (HBQ1.out.mono ((Below.refl wr.heap.size wr).drew).size)).size)).size)).trans (HBQ4.out.mono (((((Below.refl wr.heap.size wr).drew).trans (HBQ1.out.mono ((Below.refl wr.heap.size wr).drew).size)).trans (HBQ2.out.mono (((Below.refl wr.heap.size wr).drew).trans (HBQ1.out.mono ((Below.refl wr.heap.size wr).drew).size)).size)).trans (HBQ3.out.mono ((((Below.refl wr.heap.size wr).drew).trans (HBQ1.out.mono ((Below.refl wr.heap.size wr).drew).size)).trans (HBQ2.out.mono (((Below.refl wr.heap.size wr).drew).trans (HBQ1.out.mono ((Below.refl wr.heap.size wr).drew).size)).size)).size)).size)).size)).trans (HBQ9.out.mono (((((((Below.refl wr.heap.size wr).drew).trans (HBQ1.out.mono ((Below.refl wr.heap.size wr).drew).size)).trans (HBQ2.out.mono (((Below.refl wr.heap.size wr).drew).trans (HBQ1.out.mono ((Below.refl wr.heap.size wr).drew).size)).size)).trans (HBQ3.out.mono ((((Below.refl wr.heap.size wr).drew).trans (HBQ1.out.mono ((Below.refl wr.heap.size wr).drew).size)).trans (HBQ2.out.mono (((Below.refl wr.heap.size wr).drew).trans (HBQ1.out.mono ((Below.refl wr.heap.size wr).drew).size)).size)).size)).trans (HBQ4.out.mono (((((Below.refl wr.heap.size wr).drew).trans (HBQ1.out.mono ((Below.refl wr.heap.size wr).drew).size)).trans (HBQ2.out.mono (((Below.refl wr.heap.size wr).drew).trans (HBQ1.out.mono ((Below.refl wr.heap.size wr).drew).size)).size)).trans (HBQ3.out.mono ((((Below.refl wr.heap.size wr).drew).trans (HBQ1.out.mono ((Below.refl wr.heap.size wr).drew).size)).trans (HBQ2.out.mono (((Below.refl wr.heap.size wr).drew).trans (HBQ1.out.mono ((Below.refl wr.heap.size wr).drew).size)).size)).size)).size)).trans (HBQ5.out.mono ((((((Below.refl wr.heap.size wr).drew).trans (HBQ1.out.mono ((Below.refl wr.heap.size wr).drew).size)).trans (HBQ2.out.mono (((Below.refl wr.heap.size wr).drew).trans (HBQ1.out.mono ((Below.refl wr.heap.size wr).drew).size)).size)).trans (HBQ3.out.mono ((((Below.refl wr.heap.size wr).drew).trans (HBQ1.out.mono ((Below.refl wr.heap.size wr).drew).size)).trans (HBQ2.out.mono (((Below.refl wr.heap.size wr).drew).trans (HBQ1.out.mono ((Below.refl wr.heap.size wr).drew).size)).size)).size)).trans (HBQ4.out.mono (((((Below.refl wr.heap.size wr).drew).trans (HBQ1.out.mono ((Below.refl wr.heap.size wr).drew).size)).trans (HBQ2.out.mono (((Below.refl wr.heap.size wr).drew).trans (HBQ1.out.mono ((Below.refl wr.heap.size wr).drew).size)).size)).trans (HBQ3.out.mono ((((Below.refl wr.heap.size wr).drew).trans (HBQ1.out.mono ((Below.refl wr.heap.size wr).drew).size)).trans (HBQ2.out.mono (((Below.refl wr.heap.size wr).drew).trans (HBQ1.out.mono ((Below.refl wr.heap.size wr).drew).size)).size)).size)).size)).size)).size)).size)).trans (HBQ11.out.mono (((((((((Below.refl wr.heap.size wr).drew).trans (HBQ1.out.mono ((Below.refl wr.heap.size wr).drew).size)).trans (HBQ2.out.mono (((Below.refl wr.heap.size wr).drew).trans (HBQ1.out.mono ((Below.refl wr.heap.size wr).drew).size)).size)).trans (HBQ3.out.mono ((((Below.refl wr.heap.size wr).drew).trans (HBQ1.out.mono ((Below.refl wr.heap.size wr).drew).size)).trans (HBQ2.out.mono (((Below.refl wr.heap.size wr).drew).trans (HBQ1.out.mono ((Below.refl wr.heap.size wr).drew).size)).size)).size)).trans (HBQ4.out.mono (((((Below.refl wr.heap.size wr).drew).trans (HBQ1.out.mono ((Below.refl wr.heap.size wr).drew).size)).trans (HBQ2.out.mono (((Below.refl wr.heap.size wr).drew).trans (HBQ1.out.mono ((Below.refl wr.heap.size wr).drew).size)).size)).trans (HBQ3.out.mono ((((Below.refl wr.heap.size wr).drew).trans (HBQ1.out.mono ((Below.refl wr.heap.size wr).drew).size)).trans (HBQ2.out.mono (((Below.refl wr.heap.size wr).drew).trans (HBQ1.out.mono ((Below.refl wr.heap.size wr).drew).size)).size)).size)).size)).trans (HBQ5.out.mono ((((((Below.refl wr.heap.size wr).drew).trans (HBQ1.out.mono ((Below.refl wr.heap.size wr).drew).size)).trans (HBQ2.out.mono (((Below.refl wr.heap.size wr).drew).trans (HBQ1.out.mono ((Below.refl wr.heap.size wr).drew).size)).size)).trans (HBQ3.out.mono ((((Below.refl wr.heap.size wr).drew).trans (HBQ1.out.mono ((Below.refl wr.heap.size wr).drew).size)).trans (HBQ2.out.mono (((Below.refl wr.heap.size wr).drew).trans (HBQ1.out.mono ((Below.refl wr.heap.size wr).drew).size)).size)).size)).trans (HBQ4.out.mono (((((Below.refl wr.heap.size wr).drew).trans (HBQ1.out.mono ((Below.refl wr.heap.size wr).drew).size)).trans (HBQ2.out.mono (((Below.refl wr.heap.size wr).drew).trans (HBQ1.out.mono ((Below.refl wr.heap.size wr).drew).size)).size)).trans (HBQ3.out.mono ((((Below.refl wr.heap.size wr).drew).trans (HBQ1.out.mono ((Below.refl wr.heap.size wr).drew).size)).trans (HBQ2.out.mono (((Below.refl wr.heap.size wr).drew).trans (HBQ1.out.mono ((Below.refl wr.heap.size wr).drew).size)).size)).size)).size)).size)).trans (HBQ9.out.mono (((((((Below.refl wr.heap.size wr).drew).trans (HBQ1.out.mono ((Below.refl wr.heap.size wr).drew).size)).trans (HBQ2.out.mono (((Below.refl wr.heap.size wr).drew).trans (HBQ1.out.mono ((Below.refl wr.heap.size wr).drew).size)).size)).trans (HBQ3.out.mono ((((Below.refl wr.heap.size wr).drew).trans (HBQ1.out.mono ((Below.refl wr.heap.size wr).drew).size)).trans (HBQ2.out.mono (((Below.refl wr.heap.size wr).drew).trans (HBQ1.out.mono ((Below.refl wr.heap.size wr).drew).size)).size)).size)).trans (HBQ4.out.mono (((((Below.refl wr.heap.size wr).drew).trans (HBQ1.out.mono ((Below.refl wr.heap.size wr).drew).size)).trans (HBQ2.out.mono (((Below.refl wr.heap.size wr).drew).trans (HBQ1.out.mono ((Below.refl wr.heap.size wr).drew).size)).size)).trans (HBQ3.out.mono ((((Below.refl wr.heap.size wr).drew).trans (HBQ1.out.mono ((Below.refl wr.heap.size wr).drew).size)).trans (HBQ2.out.mono (((Below.refl wr.heap.size wr).drew).trans (HBQ1.out.mono ((Below.refl wr.heap.size wr).drew).size)).size)).size)).size)).trans (HBQ5.out.mono ((((((Below.refl wr.heap.size wr).drew).trans (HBQ1.out.mono ((Below.refl wr.heap.size wr).drew).size)).trans (HBQ2.out.mono (((Below.refl wr.heap.size wr).drew).trans (HBQ1.out.mono ((Below.refl wr.heap.size wr).drew).size)).size)).trans (HBQ3.out.mono ((((Below.refl wr.heap.size wr).drew).trans (HBQ1.out.mono ((Below.refl wr.heap.size wr).drew).size)).trans (HBQ2.out.mono (((Below.refl wr.heap.size wr).drew).trans (HBQ1.out.mono ((Below.refl wr.heap.size wr).drew).size)).size)).size)).trans (HBQ4.out.mono (((((Below.refl wr.heap.size wr).drew).trans (HBQ1.out.mono ((Below.refl wr.heap.size wr).drew).size)).trans (HBQ2.out.mono (((Below.refl wr.heap.size wr).drew).trans (HBQ1.out.mono ((Below.refl wr.heap.size wr).drew).size)).size)).trans (HBQ3.out.mono ((((Below.refl wr.heap.size wr).drew).trans (HBQ1.out.mono ((Below.refl wr.heap.size wr).drew).size)).trans (HBQ2.out.mono (((Below.refl wr.heap.size wr).drew).trans (HBQ1.out.mono ((Below.refl wr.heap.size wr).drew).size)).size)).size)).size)).size)).size)).trans (HBQ10.out.mono ((((((((Below.refl wr.heap.size wr).drew).trans (HBQ1.out.mono ((Below.refl wr.heap.size wr).drew).size)).trans (HBQ2.out.mono (((Below.refl wr.heap.size wr).drew).trans (HBQ1.out.mono ((Below.refl wr.heap.size wr).drew).size)).size)).trans (HBQ3.out.mono ((((Below.refl wr.heap.size wr).drew).trans (HBQ1.out.mono ((Below.refl wr.heap.size wr).drew).size)).trans (HBQ2.out.mono (((Below.refl wr.heap.size wr).drew).trans (HBQ1.out.mono ((Below.refl wr.heap.size wr).drew).size)).size)).size)).trans (HBQ4.out.mono (((((Below.refl wr.heap.size wr).drew).trans (HBQ1.out.mono ((Below.refl wr.heap.size wr).drew).size)).trans (HBQ2.out.mono (((Below.refl wr.heap.size wr).drew).trans (HBQ1.out.mono ((Below.refl wr.heap.size wr).drew).size)).size)).trans (HBQ3.out.mono ((((Below.refl wr.heap.size wr).drew).trans (HBQ1.out.mono ((Below.refl wr.heap.size wr).drew).size)).trans (HBQ2.out.mono (((Below.refl wr.heap.size wr).drew).trans (HBQ1.out.mono ((Below.refl wr.heap.size wr).drew).size)).size)).size)).size)).trans (HBQ5.out.mono ((((((Below.refl wr.heap.size wr).drew).trans (HBQ1.out.mono ((Below.refl wr.heap.size wr).drew).size)).trans (HBQ2.out.mono (((Below.refl wr.heap.size wr).drew).trans (HBQ1.out.mono ((Below.refl wr.heap.size wr).drew).size)).size)).trans (HBQ3.out.mono ((((Below.refl wr.heap.size wr).drew).trans (HBQ1.out.mono ((Below.refl wr.heap.size wr).drew).size)).trans (HBQ2.out.mono (((Below.refl wr.heap.size wr).drew).trans (HBQ1.out.mono ((Below.refl wr.heap.size wr).drew).size)).size)).size)).trans (HBQ4.out.mono (((((Below.refl wr.heap.size wr).drew).trans (HBQ1.out.mono ((Below.refl wr.heap.size wr).drew).size)).trans (HBQ2.out.mono (((Below.refl wr.heap.size wr).drew).trans (HBQ1.out.mono ((Below.refl wr.heap.size wr).drew).size)).size)).trans (HBQ3.out.mono ((((Below.refl wr.heap.size wr).drew).trans (HBQ1.out.mono ((Below.refl wr.heap.size wr).drew).size)).trans (HBQ2.out.mono (((Below.refl wr.heap.size wr).drew).trans (HBQ1.out.mono ((Below.refl wr.heap.size wr).drew).size)).size)).size)).size)).size)).trans (HBQ9.out.mono (((((((Below.refl wr.heap.size wr).drew).trans (HBQ1.out.mono ((Below.refl wr.heap.size wr).drew).size)).trans (HBQ2.out.mono (((Below.refl wr.heap.size wr).drew).trans (HBQ1.out.mono ((Below.refl wr.heap.size wr).drew).size)).size)).trans (HBQ3.out.mono ((((Below.refl wr.heap.size wr).drew).trans (HBQ1.out.mono ((Below.refl wr.heap.size wr).drew).size)).trans (HBQ2.out.mono (((Below.refl wr.heap.size wr).drew).trans (HBQ1.out.mono ((Below.refl wr.heap.size wr).drew).size)).size)).size)).trans (HBQ4.out.mono (((((Below.refl wr.heap.size wr).drew).trans (HBQ1.out.mono ((Below.refl wr.heap.size wr).drew).size)).trans (HBQ2.out.mono (((Below.refl wr.heap.size wr).drew).trans (HBQ1.out.mono ((Below.refl wr.heap.size wr).drew).size)).size)).trans (HBQ3.out.mono ((((Below.refl wr.heap.size wr).drew).trans (HBQ1.out.mono ((Below.refl wr.heap.size wr).drew).size)).trans (HBQ2.out.mono (((Below.refl wr.heap.size wr).drew).trans (HBQ1.out.mono ((Below.refl wr.heap.size wr).drew).size)).size)).size)).size)).trans (HBQ5.out.mono ((((((Below.refl wr.heap.size wr).drew).trans (HBQ1.out.mono ((Below.refl wr.heap.size wr).drew).size)).trans (HBQ2.out.mono (((Below.refl wr.heap.size wr).drew).trans (HBQ1.out.mono ((Below.refl wr.heap.size wr).drew).size)).size)).trans (HBQ3.out.mono ((((Below.refl wr.heap.size wr).drew).trans (HBQ1.out.mono ((Below.refl wr.heap.size wr).drew).size)).trans (HBQ2.out.mono (((Below.refl wr.heap.size wr).drew).trans (HBQ1.out.mono ((Below.refl wr.heap.size wr).drew).size)).size)).size)).trans (HBQ4.out.mono (((((Below.refl wr.heap.size wr).drew).trans (HBQ1.out.mono ((Below.refl wr.heap.size wr).drew).size)).trans (HBQ2.out.mono (((Below.refl wr.heap.size wr).drew).trans (HBQ1.out.mono ((Below.refl wr.heap.size wr).drew).size)).size)).trans (HBQ3.out.mono ((((Below.refl wr.heap.size wr).drew).trans (HBQ1.out.mono ((Below.refl wr.heap.size wr).drew).size)).trans (HBQ2.out.mono (((Below.refl wr.heap.size wr).drew).trans (HBQ1.out.mono ((Below.refl wr.heap.size wr).drew).size)).size)).size)).size)).size)).size)).size)).size)).mono HBS.out))⟩
      · skip
        rw [if_pos (by rfl)]
        go_wp2_with fail
        refine world_at (F := fun wx => Below wq4.heap.size wq4 wx ∧ Rd wx 1 (some ⟨wq4.heap.size, 0, none⟩) 1 1 [.slice none 0 0]) ⟨(Below.refl _ _).alloc (Nat.le_refl _) _, rd_lit wq4 #[.slice none 0 0] _ 1 1 rfl (by simp [maxLen])⟩ (fun wq12 HF => ?_)
        have HBQ12 := Lib.hid HF.out.1
        have HR18 := Lib.hid HF.out.2
        clear HF
        refine hK.out _ _ HBQ12.out (fun _ => ?_)
        clear hK K
        try simp only [Act.put, List.setIfInBounds_toArray, List.set_cons_zero, List.set_cons_succ]
        refine wpAnyH_mono (S' := fun w' => Below wq12.heap.size wq12 w') (fun w' h => HBQ12.out.trans (h.mono (by have := HBQ12.out.size; first | exact this | simpa using this))) ?_
        have hHeld : Below wq12.heap.size wq12 wq12 := Below.refl _ _
        refine held_only (i := 15) (by kernel_rfl) rfl (fun K hK => ?_)
        rw [if_pos (by rfl)]
        go_simp
        refine (new_any wq12).mono ?_
        rintro e wq13 ⟨rfl, hw15⟩
        have HLV : Hid (Live wq13 wq12.heap.size none []) := Lib.hid (by rw [hw15]; exact Live.new _)
        have HBQ13 : Hid (Below wq12.heap.size wq12 wq13) := Lib.hid (by rw [hw15]; exact (Below.refl _ _).alloc (Nat.le_refl _) _)
        clear hw15
        go_wp2_with fail
        refine hK.out _ _ HBQ13.out (fun _ => ?_)
        clear hK K
        try simp only [Act.put, List.setIfInBounds_toArray, List.set_cons_zero, List.set_cons_succ]
        refine wpAnyH_mono (S' := fun w' => Below wq13.heap.size wq13 w') (fun w' h => HBQ13.out.trans (h.mono (by have := HBQ13.out.size; first | exact this | simpa using this))) ?_
        have hHeld : Below wq13.heap.size wq13 wq13 := Below.refl _ _
        refine held_only (i := 16) (by kernel_rfl) rfl (fun K hK => ?_)
        rw [if_pos (by rfl)]
        go_simp
        refine (hsum_live _ none [] wq13 (HLV.out.below (Below.refl _ _)) (by simp)).mono ?_
        rintro e wq14 ⟨A16, c16, rfl, hs16, hb16⟩
        have HS16 := Lib.hid hs16
        have HBQ14 := Lib.hid hb16
        clear hs16 hb16
        go_wp2_with fail
        refine hK.out _ _ HBQ14.out (fun _ => ?_)
        clear hK K
        try simp only [Act.put, List.setIfInBounds_toArray, List.set_cons_zero, List.set_cons_succ]
        refine wpAnyH_mono (S' := fun w' => Below wq14.heap.size wq14 w') (fun w' h => HBQ14.out.trans (h.mono (by have := HBQ14.out.size; first | exact this | simpa using this))) ?_
        have hHeld : Below wq14.heap.size wq14 wq14 := Below.refl _ _
        refine held_yes (i := 17) (v := ?_) rfl (by kernel_rfl) (by kernel_rfl) (by kernel_rfl) (fun _ _ _ h => h) (by rfl) (fun w hSw => ?_) hHeld ?_
        rotate_left
        · have kc := str_of (HS16.out.rd.below hSw); go_simp; try with_reducible rfl
        simp only [List.setIfInBounds_toArray, List.set_cons_zero, List.set_cons_succ]
        refine held_only (i := 19) (by kernel_rfl) rfl (fun K hK => ?_)
        rw [if_pos (by rfl)]
        go_simp
        refine (sum_one _ _ none 0 0 [] wq14 (HR18.out.below (HBQ13.out.trans (HBQ14.out.mono (by have := HBQ13.out.size; first | exact this | simpa using this)))) (Seg.nil wq14 0 1).rd (by simp)).mono ?_
        rintro e wq15 ⟨A19, c19, rfl, hs19, hb19⟩
        have HS19 := Lib.hid hs19
        have HBQ15 := Lib.hid hb19
        clear hs19 hb19
        go_wp2_with fail
        refine hK.out _ _ HBQ15.out (fun _ => ?_)
        clear hK K
        try simp only [Act.put, List.setIfInBounds_toArray, List.set_cons_zero, List.set_cons_succ]
        refine wpAnyH_mono (S' := fun w' => Below wq15.heap.size wq15 w') (fun w' h => HBQ15.out.trans (h.mono (by have := HBQ15.out.size; first | exact this | simpa using this))) ?_
        have hHeld : Below wq15.heap.size wq15 wq15 := Below.refl _ _
        refine held_yes (i := 20) (v := ?_) rfl (by kernel_rfl) (by kernel_rfl) (by kernel_rfl) (fun _ _ _ h => h) (by rfl) (fun w hSw => ?_) hHeld ?_
        rotate_left
        · have kc := str_of (HS19.out.rd.below hSw); go_simp; try with_reducible rfl
        simp only [List.setIfInBounds_toArray, List.set_cons_zero, List.set_cons_succ]
        refine held_yes (i := 21) (v := ?_) rfl (by kernel_rfl) (by kernel_rfl) (by kernel_rfl) (fun _ _ _ h => h) (by rfl) (fun w hSw => ?_) hHeld ?_
        rotate_left
        · go_simp; try with_reducible rfl
        simp only [List.setIfInBounds_toArray, List.set_cons_zero, List.set_cons_succ]
        refine held_yes (i := 22) (v := ?_) rfl (by kernel_rfl) (by kernel_rfl) (by kernel_rfl) (fun _ _ _ h => h) (by rfl) (fun w hSw => ?_) hHeld ?_
        rotate_left
        · go_simp; try with_reducible rfl
        simp only [List.setIfInBounds_toArray, List.set_cons_zero, List.set_cons_succ]
        refine held_yes (i := 23) (v := ?_) rfl (by kernel_rfl) (by kernel_rfl) (by kernel_rfl) (fun _ _ _ h => h) (by rfl) (fun w hSw => ?_) hHeld ?_
        rotate_left
        · go_simp; try with_reducible rfl
        simp only [List.setIfInBounds_toArray, List.set_cons_zero, List.set_cons_succ]
        refine wpAnyH_done (by kernel_rfl) ?_ _
        go_wp2_with fail
        go_ret
        exact ⟨rfl, ((HB1.out.trans (HB.out.mono HB1.out.size)).trans (((((((((((Below.refl wr.heap.size wr).drew).trans (HBQ1.out.mono ((Below.refl wr.heap.size wr).drew).size)).trans (HBQ2.out.mono (((Below.refl wr.heap.size wr).drew).trans (HBQ1.out.mono ((Below.refl wr.heap.size wr).drew).size)).size)).trans (HBQ3.out.mono ((((Below.refl wr.heap.size wr).drew).trans (HBQ1.out.mono ((Below.refl wr.heap.size wr).drew).size)).trans (HBQ2.out.mono (((Below.refl wr.heap.size wr).drew).trans (HBQ1.out.mono ((Below.refl wr.heap.size wr).drew).size)).size)).size)).trans (HBQ4.out.mono (((((Below.refl wr.heap.size wr).drew).trans (HBQ1.out.mono ((Below.refl wr.heap.size wr).drew).size)).trans (HBQ2.out.mono (((Below.refl wr.heap.size wr).drew).trans (HBQ1.out.mono ((Below.refl wr.heap.size wr).drew).size)).size)).trans (HBQ3.out.mono ((((Below.refl wr.heap.size wr).drew).trans (HBQ1.out.mono ((Below.refl wr.heap.size wr).drew).size)).trans (HBQ2.out.mono (((Below.refl wr.heap.size wr).drew).trans (HBQ1.out.mono ((Below.refl wr.heap.size wr).drew).size)).size)).size)).size)).trans (HBQ12.out.mono ((((((Below.refl wr.heap.size wr).drew).trans (HBQ1.out.mono ((Below.refl wr.heap.size wr).drew).size)).trans (HBQ2.out.mono (((Below.refl wr.heap.size wr).drew).trans (HBQ1.out.mono ((Below.refl wr.heap.size wr).drew).size)).size)).trans (HBQ3.out.mono ((((Below.refl wr.heap.size wr).drew).trans (HBQ1.out.mono ((Below.refl wr.heap.size wr).drew).size)).trans (HBQ2.out.mono (((Below.refl wr.heap.size wr).drew).trans (HBQ1.out.mono ((Below.refl wr.heap.size wr).drew).size)).size)).size)).trans (HBQ4.out.mono (((((Below.refl wr.heap.size wr).drew).trans (HBQ1.out.mono ((Below.refl wr.heap.size wr).drew).size)).trans (HBQ2.out.mono (((Below.refl wr.heap.size wr).drew).trans (HBQ1.out.mono ((Below.refl wr.heap.size wr).drew).size)).size)).trans (HBQ3.out.mono ((((Below.refl wr.heap.size wr).drew).trans (HBQ1.out.mono ((Below.refl wr.heap.size wr).drew).size)).trans (HBQ2.out.mono (((Below.refl wr.heap.size wr).drew).trans (HBQ1.out.mono ((Below.refl wr.heap.size wr).drew).size)).size)).size)).size)).size)).trans (HBQ13.out.mono (((((((Below.refl wr.heap.size wr).drew).trans (HBQ1.out.mono ((Below.refl wr.heap.size wr).drew).size)).trans (HBQ2.out.mono (((Below.refl wr.heap.size wr).drew).trans (HBQ1.out.mono ((Below.refl wr.heap.size wr).drew).size)).size)).trans (HBQ3.out.mono ((((Below.refl wr.heap.size wr).drew).trans (HBQ1.out.mono ((Below.refl wr.heap.size wr).drew).size)).trans (HBQ2.out.mono (((Below.refl wr.heap.size wr).drew).trans (HBQ1.out.mono ((Below.refl wr.heap.size wr).drew).size)).size)).size)).trans (HBQ4.out.mono (((((Below.refl wr.heap.size wr).drew).trans (HBQ1.out.mono ((Below.refl wr.heap.size wr).drew).size)).trans (HBQ2.out.mono (((Below.refl wr.heap.size wr).drew).trans (HBQ1.out.mono ((Below.refl wr.heap.size wr).drew).size)).size)).trans (HBQ3.out.mono ((((Below.refl wr.heap.size wr).drew).trans (HBQ1.out.mono ((Below.refl wr.heap.size wr).drew).size)).trans (HBQ2.out.mono (((Below.refl wr.heap.size wr).drew).trans (HBQ1.out.mono ((Below.refl wr.heap.size wr).drew).size)).size)).size)).size)).trans (HBQ12.out.mono ((((((Below.refl wr.heap.size wr).drew).trans (HBQ1.out.mono ((Below.refl wr.heap.size wr).drew).size)).trans (HBQ2.out.mono (((Below.refl wr.heap.size wr).drew).trans (HBQ1.out.mono ((Below.refl wr.heap.size wr).drew).size)).size)).trans (HBQ3.out.mono ((((Below.refl wr.heap.size wr).drew).trans (HBQ1.out.mono ((Below.refl wr.heap.size wr).drew).size)).trans (HBQ2.out.mono (((Below.refl wr.heap.size wr).drew).trans (HBQ1.out.mono ((Below.refl wr.heap.size wr).drew).size)).size)).size)).trans (HBQ4.out.mono (((((Below.refl wr.heap.size wr).drew).trans (HBQ1.out.mono ((Below.refl wr.heap.size wr).drew).size)).trans (HBQ2.out.mono (((Below.refl wr.heap.size wr).drew).trans (HBQ1.out.mono ((Below.refl wr.heap.size wr).drew).size)).size)).trans (HBQ3.out.mono ((((Below.refl wr.heap.size wr).drew).trans (HBQ1.out.mono ((Below.refl wr.heap.size wr).drew).size)).trans (HBQ2.out.mono (((Below.refl wr.heap.size wr).drew).trans (HBQ1.out.mono ((Below.refl wr.heap.size wr).drew).size)).size)).size)).size)).size)).size)).trans (HBQ14.out.mono ((((((((Below.refl wr.heap.size wr).drew).trans (HBQ1.out.mono ((Below.refl wr.heap.size wr).drew).size)).trans (HBQ2.out.mono (((Below.refl wr.heap.size wr).drew).trans (HBQ1.out.mono ((Below.refl wr.heap.size wr).drew).size)).size)).trans (HBQ3.out.mono ((((Below.refl wr.heap.size wr).drew).trans (HBQ1.out.mono ((Below.refl wr.heap.size wr).drew).size)).trans (HBQ2.out.mono (((Below.refl wr.heap.size wr).drew).trans (HBQ1.out.mono ((Below.refl wr.heap.size wr).drew).size)).size)).size)).trans (HBQ4.out.mono (((((Below.refl wr.heap.size wr).drew).trans (HBQ1.out.mono ((Below.refl wr.heap.size wr).drew).size)).trans (HBQ2.out.mono (((Below.refl wr.heap.size wr).drew).trans (HBQ1.out.mono ((Below.refl wr.heap.size wr).drew).size)).size)).trans (HBQ3.out.mono ((((Below.refl wr.heap.size wr).drew).trans (HBQ1.out.mono ((Below.refl wr.heap.size wr).drew).size)).trans (HBQ2.out.mono (((Below.refl wr.heap.size wr).drew).trans (HBQ1.out.mono ((Below.refl wr.heap.size wr).drew).size)).size)).size)).size)).trans (HBQ12.out.mono ((((((Below.refl wr.heap.size wr).drew).trans (HBQ1.out.mono ((Below.refl wr.heap.size wr).drew).size)).trans (HBQ2.out.mono (((Below.refl wr.heap.size wr).drew).trans (HBQ1.out.mono ((Below.refl wr.heap.size wr).drew).size)).size)).trans (HBQ3.out.mono ((((Below.refl wr.heap.size wr).drew).trans (HBQ1.out.mono ((Below.refl wr.heap.size wr).drew).size)).trans (HBQ2.out.mono (((Below.refl wr.heap.size wr).drew).trans (HBQ1.out.mono ((Below.refl wr.heap.size wr).drew).size)).size)).size)).trans (HBQ4.out.mono (((((Below.refl wr.heap.size wr).drew).trans (HBQ1.out.mono ((Below.refl wr.heap.size wr).drew).size)).trans (HBQ2.out.mono (((Below.refl wr.heap.size wr).drew).trans (HBQ1.out.mono ((Below.refl wr.heap.size wr).drew).size)).size)).trans (HBQ3.out.mono ((((Below.refl wr.heap.size wr).drew).trans (HBQ1.out.mono ((Below.refl wr.heap.size wr).drew).size)).trans (HBQ2.out.mono (((Below.refl wr.heap.size wr).drew).trans (HBQ1.out.mono ((Below.refl wr.heap.size wr).drew).size)).size)).size)).size)).size)).trans (HBQ13.out.mono (((((((Below.refl wr.heap.size wr).drew).trans (HBQ1.out.mono ((Below.refl wr.heap.size wr).drew).size)).trans (HBQ2.out.mono (((Below.refl wr.heap.size wr).drew).trans (HBQ1.out.mono ((Below.refl wr.heap.size wr).drew).size)).size)).trans (HBQ3.out.mono ((((Below.refl wr.heap.size wr).drew).trans (HBQ1.out.mono ((Below.refl wr.heap.size wr).drew).size)).trans (HBQ2.out.mono (((Below.refl wr.heap.size wr).drew).trans (HBQ1.out.mono ((Below.refl wr.heap.size wr).drew).size)).size)).size)).trans (HBQ4.out.mono (((((Below.refl wr.heap.size wr).drew).trans (HBQ1.out.mono ((Below.refl wr.heap.size wr).drew).size)).trans (HBQ2.out.mono (((Below.refl wr.heap.size wr).drew).trans (HBQ1.out.mono ((Below.refl wr.heap.size wr).drew).size)).size)).trans (HBQ3.out.mono ((((Below.refl wr.heap.size wr).drew).trans (HBQ1.out.mono ((Below.refl wr.heap.size wr).drew).size)).trans (HBQ2.out.mono (((Below.refl wr.heap.size wr).drew).trans (HBQ1.out.mono ((Below.refl wr.heap.size wr).drew).size)).size)).size)).size)).trans (HBQ12.out.mono ((((((Below.refl wr.heap.size wr).drew).trans (HBQ1.out.mono ((Below.refl wr.heap.size wr).drew).size)).trans (HBQ2.out.mono (((Below.refl wr.heap.size wr).drew).trans (HBQ1.out.mono ((Below.refl wr.heap.size wr).drew).size)).size)).trans (HBQ3.out.mono ((((Below.refl wr.heap.size wr).drew).trans (HBQ1.out.mono ((Below.refl wr.heap.size wr).drew).size)).trans (HBQ2.out.mono (((Below.refl wr.heap.size wr).drew).trans (HBQ1.out.mono ((Below.refl wr.heap.size wr).drew).size)).size)).size)).trans (HBQ4.out.mono (((((Below.refl wr.heap.size wr).drew).trans (HBQ1.out.mono ((Below.refl wr.heap.size wr).drew).size)).trans (HBQ2.out.mono (((Below.refl wr.heap.size wr).drew).trans (HBQ1.out.mono ((Below.refl wr.heap.size wr).drew).size)).size)).trans (HBQ3.out.mono ((((Below.refl wr.heap.size wr).drew).trans (HBQ1.out.mono ((Below.refl wr.heap.size wr).drew).size)).trans (HBQ2.out.mono (((Below.refl wr.heap.size wr).drew).trans (HBQ1.out.mono ((Below.refl wr.heap.size wr).drew).size)).size)).size)).size)).size)).size)).size)).trans (HBQ15.out.mono (((((((((Below.refl wr.heap.size wr).drew).trans (HBQ1.out.mono ((Below.refl wr.heap.size wr).drew).size)).trans (HBQ2.out.mono (((Below.refl wr.heap.size wr).drew).trans (HBQ1.out.mono ((Below.refl wr.heap.size wr).drew).size)).size)).trans (HBQ3.out.mono ((((Below.refl wr.heap.size wr).drew).trans (HBQ1.out.mono ((Below.refl wr.heap.size wr).drew).size)).trans (HBQ2.out.mono (((Below.refl wr.heap.size wr).drew).trans (HBQ1.out.mono ((Below.refl wr.heap.size wr).drew).size)).size)).size)).trans (HBQ4.out.mono (((((Below.refl wr.heap.size wr).drew).trans (HBQ1.out.mono ((Below.refl wr.heap.size wr).drew).size)).trans (HBQ2.out.mono (((Below.refl wr.heap.size wr).drew).trans (HBQ1.out.mono ((Below.refl wr.heap.size wr).drew).size)).size)).trans (HBQ3.out.mono ((((Below.refl wr.heap.size wr).drew).trans (HBQ1.out.mono ((Below.refl wr.heap.size wr).drew).size)).trans (HBQ2.out.mono (((Below.refl wr.heap.size wr).drew).trans (HBQ1.out.mono ((Below.refl wr.heap.size wr).drew).size)).size)).size)).size)).trans (HBQ12.out.mono ((((((Below.refl wr.heap.size wr).drew).trans (HBQ1.out.mono ((Below.refl wr.heap.size wr).drew).size)).trans (HBQ2.out.mono (((Below.refl wr.heap.size wr).drew).trans (HBQ1.out.mono ((Below.refl wr.heap.size wr).drew).size)).size)).trans (HBQ3.out.mono ((((Below.refl wr.heap.size wr).drew).trans (HBQ1.out.mono ((Below.refl wr.heap.size wr).drew).size)).trans (HBQ2.out.mono (((Below.refl wr.heap.size wr).drew).trans (HBQ1.out.mono ((Below.refl wr.heap.size wr).drew).size)).size)).size)).trans (HBQ4.out.mono (((((Below.refl wr.heap.size wr).drew).trans (HBQ1.out.mono ((Below.refl wr.heap.size wr).drew).size)).trans (HBQ2.out.mono (((Below.refl wr.heap.size wr).drew).trans (HBQ1.out.mono ((Below.refl wr.heap.size wr).drew).size)).size)).trans (HBQ3.out.mono ((((Below.refl wr.heap.size wr).drew).trans (HBQ1.out.mono ((Below.refl wr.heap.size wr).drew).size)).trans (HBQ2.out.mono (((Below.refl wr.heap.size wr).drew).trans (HBQ1.out.mono ((Below.refl wr.heap.size wr).drew).size)).size)).size)).size)).size)).trans (HBQ13.out.mono (((((((Below.refl wr.heap.size wr).drew).trans (HBQ1.out.mono ((Below.refl wr.heap.size wr).drew).size)).trans (HBQ2.out.mono (((Below.refl wr.heap.size wr).drew).trans (HBQ1.out.mono ((Below.refl wr.heap.size wr).drew).size)).size)).trans (HBQ3.out.mono ((((Below.refl wr.heap.size wr).drew).trans (HBQ1.out.mono ((Below.refl wr.heap.size wr).drew).size)).trans (HBQ2.out.mono (((Below.refl wr.heap.size wr).drew).trans (HBQ1.out.mono ((Below.refl wr.heap.size wr).drew).size)).size)).size)).trans (HBQ4.out.mono (((((Below.refl wr.heap.size wr).drew).trans (HBQ1.out.mono ((Below.refl wr.heap.size wr).drew).size)).trans (HBQ2.out.mono (((Below.refl wr.heap.size wr).drew).trans (HBQ1.out.mono ((Below.refl wr.heap.size wr).drew).size)).size)).trans (HBQ3.out.mono ((((Below.refl wr.heap.size wr).drew).trans (HBQ1.out.mono ((Below.refl wr.heap.size wr).drew).size)).trans (HBQ2.out.mono (((Below.refl wr.heap.size wr).drew).trans (HBQ1.out.mono ((Below.refl wr.heap.size wr).drew).size)).size)).size)).size)).trans (HBQ12.out.mono ((((((Below.refl wr.heap.size wr).drew).trans (HBQ1.out.mono ((Below.refl wr.heap.size wr).drew).size)).trans (HBQ2.out.mono (((Below.refl wr.heap.size wr).drew).trans (HBQ1.out.mono ((Below.refl wr.heap.size wr).drew).size)).size)).trans (HBQ3.out.mono ((((Below.refl wr.heap.size wr).drew).trans (HBQ1.out.mono ((Below.refl wr.heap.size wr).drew).size)).trans (HBQ2.out.mono (((Below.refl wr.heap.size wr).drew).trans (HBQ1.out.mono ((Below.refl wr.heap.size wr).drew).size)).size)).size)).trans (HBQ4.out.mono (((((Below.refl wr.heap.size wr).drew).trans (HBQ1.out.mono ((Below.refl wr.heap.size wr).drew).size)).trans (HBQ2.out.mono (((Below.refl wr.heap.size wr).drew).trans (HBQ1.out.mono ((Below.refl wr.heap.size wr).drew).size)).size)).trans (HBQ3.out.mono ((((Below.refl wr.heap.size wr).drew).trans (HBQ1.out.mono ((Below.refl wr.heap.size wr).drew).size)).trans (HBQ2.out.mono (((Below.refl wr.heap.size wr).drew).trans (HBQ1.out.mono ((Below.refl wr.heap.size wr).drew).size)).size)).size)).size)).size)).size)).trans (HBQ14.out.mono ((((((((Below.refl wr.heap.size wr).drew).trans (HBQ1.out.mono ((Below.refl wr.heap.size wr).drew).size)).trans (HBQ2.out.mono (((Below.refl wr.heap.size wr).drew).trans (HBQ1.out.mono ((Below.refl wr.heap.size wr).drew).size)).size)).trans (HBQ3.out.mono ((((Below.refl wr.heap.size wr).drew).trans (HBQ1.out.mono ((Below.refl wr.heap.size wr).drew).size)).trans (HBQ2.out.mono (((Below.refl wr.heap.size wr).drew).trans (HBQ1.out.mono ((Below.refl wr.heap.size wr).drew).size)).size)).size)).trans (HBQ4.out.mono (((((Below.refl wr.heap.size wr).drew).trans (HBQ1.out.mono ((Below.refl wr.heap.size wr).drew).size)).trans (HBQ2.out.mono (((Below.refl wr.heap.size wr).drew).trans (HBQ1.out.mono ((Below.refl wr.heap.size wr).drew).size)).size)).trans (HBQ3.out.mono ((((Below.refl wr.heap.size wr).drew).trans (HBQ1.out.mono ((Below.refl wr.heap.size wr).drew).size)).trans (HBQ2.out.mono (((Below.refl wr.heap.size wr).drew).trans (HBQ1.out.mono ((Below.refl wr.heap.size wr).drew).size)).size)).size)).size)).trans (HBQ12.out.mono ((((((Below.refl wr.heap.size wr).drew).trans (HBQ1.out.mono ((Below.refl wr.heap.size wr).drew).size)).trans (HBQ2.out.mono (((Below.refl wr.heap.size wr).drew).trans (HBQ1.out.mono ((Below.refl wr.heap.size wr).drew).size)).size)).trans (HBQ3.out.mono ((((Below.refl wr.heap.size wr).drew).trans (HBQ1.out.mono ((Below.refl wr.heap.size wr).drew).size)).trans (HBQ2.out.mono (((Below.refl wr.heap.size wr).drew).trans (HBQ1.out.mono ((Below.refl wr.heap.size wr).drew).size)).size)).size)).trans (HBQ4.out.mono (((((Below.refl wr.heap.size wr).drew).trans (HBQ1.out.mono ((Below.refl wr.heap.size wr).drew).size)).trans (HBQ2.out.mono (((Below.refl wr.heap.size wr).drew).trans (HBQ1.out.mono ((Below.refl wr.heap.size wr).drew).size)).size)).trans (HBQ3.out.mono ((((Below.refl wr.heap.size wr).drew).trans (HBQ1.out.mono ((Below.refl wr.heap.size wr).drew).size)).trans (HBQ2.out.mono (((Below.refl wr.heap.size wr).drew).trans (HBQ1.out.mono ((Below.refl wr.heap.size wr).drew).size)).size)).size)).size)).size)).trans (HBQ13.out.mono (((((((Below.refl wr.heap.size wr).drew).trans (HBQ1.out.mono ((Below.refl wr.heap.size wr).drew).size)).trans (HBQ2.out.mono (((Below.refl wr.heap.size wr).drew).trans (HBQ1.out.mono ((Below.refl wr.heap.size wr).drew).size)).size)).trans (HBQ3.out.mono ((((Below.refl wr.heap.size wr).drew).trans (HBQ1.out.mono ((Below.refl wr.heap.size wr).drew).size)).trans (HBQ2.out.mono (((Below.refl wr.heap.size wr).drew).trans (HBQ1.out.mono ((Below.refl wr.heap.size wr).drew).size)).size)).size)).trans (HBQ4.out.mono (((((Below.refl wr.heap.size wr).drew).trans (HBQ1.out.mono ((Below.refl wr.heap.size wr).drew).size)).trans (HBQ2.out.mono (((Below.refl wr.heap.size wr).drew).trans (HBQ1.out.mono ((Below.refl wr.heap.size wr).drew).size)).size)).trans (HBQ3.out.mono ((((Below.refl wr.heap.size wr).drew).trans (HBQ1.out.mono ((Below.refl wr.heap.size wr).drew).size)).trans (HBQ2.out.mono (((Below.refl wr.heap.size wr).drew).trans (HBQ1.out.mono ((Below.refl wr.heap.size wr).drew).size)).size)).size)).size)).trans (HBQ12.out.mono ((((((Below.refl wr.heap.size wr).drew).trans (HBQ1.out.mono ((Below.refl wr.heap.size wr).drew).size)).trans (HBQ2.out.mono (((Below.refl wr.heap.size wr).drew).trans (HBQ1.out.mono ((Below.refl wr.heap.size wr).drew).size)).size)).trans (HBQ3.out.mono ((((Below.refl wr.heap.size wr).drew).trans (HBQ1.out.mono ((Below.refl wr.heap.size wr).drew).size)).trans (HBQ2.out.mono (((Below.refl wr.heap.size wr).drew).trans (HBQ1.out.mono ((Below.refl wr.heap.size wr).drew).size)).size)).size)).trans (HBQ4.out.mono (((((Below.refl wr.heap.size wr).drew).trans (HBQ1.out.mono ((Below.refl wr.heap.size wr).drew).size)).trans (HBQ2.out.mono (((Below.refl wr.heap.size wr).drew).trans (HBQ1.out.mono ((Below.refl wr.heap.size wr).drew).size)).size)).trans (HBQ3.out.mono ((((Below.refl wr.heap.size wr).drew).trans (HBQ1.out.mono ((Below.refl wr.heap.size wr).drew).size)).trans (HBQ2.out.mono (((Below.refl wr.heap.size wr).drew).trans (HBQ1.out.mono ((Below.refl wr.heap.size wr).drew).size)).size)).size)).size)).size)).size)).size)).size)).mono HBS.out))⟩
theorem ShaEmpty_walk (w : World) (A : Option Addr) (n c : Nat) (bss : List (List UInt8)) (h : RSlice 1 RBytes w [.slice A n c] bss) : Calls Try.prog 13 #[.slice A n c] w (Tells w true) := by
  obtain ⟨A', c', cells, he, hr, hp⟩ := h
  simp only [List.cons.injEq, Value.slice.injEq, and_true] at he
  obtain ⟨rfl, rfl, rfl⟩ := he
  exact ShaEmpty_ok w A _ c cells bss hr (Parts.of hr.len hp)
end Go.Proofs.Ytpcncogmhnncpaa
