/- The contract of locketref01.schedule. -/
import Derived.Test.YthpigmkdchnnoaaRefF
namespace Go.Proofs.Ythpigmkdchnnoaa
open Go.RowKit
set_option linter.unusedVariables false
set_option linter.unusedSimpArgs false

theorem wp_append_seg {P : Program} {w : World} {o : Oper} {a : Act} {K : Act → World → Prop} {Q : Exit → Act → World → Prop} (s x : Operand) (t tx : TypeId)
    (ho : o.op = .call { callee := .builtin .append, args := #[s, x], argTypes := #[t, tx] })
    {e : TypeId} {z : Value} {size bytes : Nat} (ei : EI P t e z size bytes)
    {base : Nat} {A : Option Addr} {n c : Nat} {xs : List Value} (hs : a.eval s = .slice A n c) (h : Seg w base size A n c xs) {xv : Value} {m : Nat} {news : List Value} (hx : a.eval x = xv) (hsrc : Src P size tx xv m news w)
    (h63 : n + m ≤ maxLen) (hbytes : (n + m) * bytes ≤ 140737488355328) (hbase : base ≤ w.heap.size)
    (hK : ∀ A' c' w', Seg w' base size A' (n + m) c' (xs ++ news) → w.grownBy w' (A.map (·.block)) → K (a.put o.dst (.slice A' (n + m) c')) w') : o.wp P a w K Q := by
  obtain ⟨A', c', w', hr, h2, h3, h4⟩ := run_append_seg ei tx o.type h xv m news hsrc h63 hbytes hbase
  unfold Oper.wp execOp
  simp only [ho, resolve, invoke, builtin, Sem.run_bind, Sem.run_pure, Result.andThen_ok, List.map_toArray, List.map_cons, List.map_nil, hs, hx, hr]
  exact hK A' c' w' h2 h3
theorem wraps62 (n : Int) (h₀ : 0 ≤ n) (h₁ : n < 2 ^ 62) : IntKind.i64.wrap n = n := by rw [IntKind.wrap_i64]; omega
theorem and_i64 (a b : Nat) (ha : a < 4294967296) (hb : b < 4294967296) : bits .and .i64 a b = ((a &&& b : Nat) : Int) := (bits_nat .i64 62 (by decide) wraps62 a b (by omega) (by omega)).1
theorem xor_i64 (a b : Nat) (ha : a < 4294967296) (hb : b < 4294967296) : bits .xor .i64 a b = ((a ^^^ b : Nat) : Int) := by
  have ha' : a % 2 ^ 64 = a := Nat.mod_eq_of_lt (by omega)
  have hb' : b % 2 ^ 64 = b := Nat.mod_eq_of_lt (by omega)
  have hx : a ^^^ b < 2 ^ 32 := Nat.xor_lt_two_pow ha hb
  simp only [bits, BitVec.ofInt_natCast, BitVec.toNat_xor, BitVec.toNat_ofNat, show IntKind.i64.bits = 64 from rfl, ha', hb']
  exact wraps62 _ (Int.natCast_nonneg _) (Int.lt_trans (show ((a ^^^ b : Nat) : Int) < 2 ^ 32 by exact_mod_cast hx) (by decide))
theorem rdn_get {w w' : World} {b o n c : Nat} {l : List Nat} (h : Rd w 1 (some ⟨b, o, none⟩) n c (ivs l)) (hb : Below w.heap.size w w') {j : Nat} (hj : j < l.length) : w'.cell? ⟨b, o + j, none⟩ = some (.int .i64 ((l.getD j 0 : Nat) : Int)) := by
  have hl : l.length = n := by have := h.len; rw [ivs_length] at this; omega
  obtain ⟨b', o', hA, hx⟩ := h.at_ (by omega)
  cases hA
  have := hx j _ (ivs_get l j hj)
  rw [(hb.cell (World.block_lt_of_cell? w _ this)).trans this, List.getD_eq_getElem?_getD, List.getElem?_eq_getElem hj]; rfl
theorem sched_get_lt (bs : List UInt8) (t j : Nat) : (sched bs t).getD j 0 < 4294967296 := by
  by_cases h : j < (sched bs t).length
  · rw [List.getD_eq_getElem?_getD, List.getElem?_eq_getElem h]; exact sched_lt bs t _ (List.getElem_mem _)
  · rw [List.getD_eq_getElem?_getD, List.getElem?_eq_none (by omega)]; decide

set_option maxRecDepth 100000 in
set_option maxHeartbeats 2000000 in
theorem rsched_any (A : Option Addr) (n c : Nat) (bs : List UInt8) (w : World) (hr : Rd w 1 A n c (bvs bs)) (hn : 64 ≤ n) :
    Calls Try.prog 30 #[.slice A n c] w fun e w' => ∃ A' c', e = .returned (.slice A' 64 c') ∧ Seg w' w.heap.size 1 A' 64 c' (ivs (sched bs 64)) ∧ Below w.heap.size w w' := by
  have HR := Lib.hid hr
  clear hr
  go_enter Try.func30, Try.ntmps30
  go_wp2_with fail
  go_loopw [3, 4] (fun s3 s4 wr => ∃ (t : Nat) (A' : Option Addr) (c' : Nat), t ≤ 16 ∧ s3 = .slice A' t c' ∧ s4 = .int .i64 (t : Int) ∧ Seg wr w.heap.size 1 A' t c' (ivs (sched bs t)) ∧ Below w.heap.size w wr) (fun _ s4 _ => 16 - (intOf s4).toNat)
  case atStart => exact ⟨0, none, 0, by omega, rfl, rfl, Seg.nil _ _ _, Below.refl _ _⟩
  case round =>
    obtain ⟨t, A2, c2, ht, rfl, rfl, hs, hb⟩ := hrel
    have HS := Lib.hid hs
    have HB := Lib.hid hb
    clear hs hb
    by_cases hlt : t < 16
    · obtain ⟨q, HQ⟩ : ∃ q, Hid (q = 4 * t) := ⟨_, Lib.hid rfl⟩
      have hq4 : (4 : Int) * (t : Int) = (q : Int) := by have := HQ.out; omega
      have hqw : IntKind.i64.wrap (q : Int) = (q : Int) := by have := HQ.out; rw [IntKind.wrap_i64]; omega
      have HW := Lib.hid (word_any A n c bs q wr (HR.out.below HB.out) (by have := HQ.out; omega))
      obtain ⟨x, HX⟩ : ∃ x, Hid (x = wordI bs q) := ⟨_, Lib.hid rfl⟩
      rw [← HX.out] at HW
      have HSC : Hid (sched bs (t + 1) = sched bs t ++ [x]) := by rw [sched, if_pos hlt, HX.out, HQ.out, wordAt_I]; exact Lib.hid rfl
      go_wp2_with (first | (refine HW.out.mono ?_; rintro e wm ⟨rfl, hb1⟩; have HS1 := Lib.hid ((HS.out.below hb1).below ((Below.refl _ _).alloc (Nat.le_refl _) (.cells #[.int .i64 (x : Int)] 3))); have HB1 := Lib.hid (HB.out.trans (hb1.mono HB.out.size)); clear hb1) | (at_builtin; refine wpList_append_seg rfl _ _ _ _ rfl ei_int rfl HS1.out rfl ((seg_lit_z wm (x : Int) wm.heap.size (Nat.le_refl _)).src Try.underlying73 (zvs_one _)) (by simp only [maxLen]; omega) (by omega) (by have := HB1.out.size; simp; omega) ?_; intro A' c' wn hs hg _; have HB2 := Lib.hid ((HB1.out.alloc HB1.out.size (.cells #[.int .i64 (x : Int)] 3)).grown hg (by have := HB1.out.size; simp; omega) HS1.out.own_row); have HS2 := Lib.hid hs; clear hs hg))
      case roundEnd =>
        refine ⟨⟨t + 1, A', c', by omega, rfl, by push_cast; rfl, ?_, HB2.out⟩, by simp only [intOf]; omega⟩
        have h := HS2.out
        rw [show zvs [(x : Int)] = ivs [x] from rfl, ← ivs_append, ← HSC.out] at h
        exact h
    · obtain rfl : t = 16 := by omega
      go_wp2_with fail
      simp only [show (((16 : Nat)) : Int) = 16 from rfl]
      have HS0 := HS
      have HB0 := HB
      clear HS HB
      go_loopw [3, 5] (fun s3 s5 wr => ∃ (t : Nat) (A' : Option Addr) (c' : Nat), 16 ≤ t ∧ t ≤ 64 ∧ s3 = .slice A' t c' ∧ s5 = .int .i64 (t : Int) ∧ Seg wr w.heap.size 1 A' t c' (ivs (sched bs t)) ∧ Below w.heap.size w wr) (fun _ s5 _ => 64 - (intOf s5).toNat)
      case atStart => exact ⟨16, A2, c2, by omega, by omega, rfl, rfl, HS0.out, HB0.out⟩
      case round =>
        obtain ⟨t, A3, c3, ht16, ht, rfl, rfl, hs, hb⟩ := hrel
        have HS := Lib.hid hs
        have HB := Lib.hid hb
        clear hs hb HS0 HB0
        by_cases hlt : t < 64
        · obtain ⟨g, o, rfl, _⟩ := HS.out.rd.at_ (by omega)
          obtain ⟨q2, HQ2⟩ : ∃ q, Hid (q + 2 = t) := ⟨t - 2, Lib.hid (by omega)⟩
          obtain ⟨q7, HQ7⟩ : ∃ q, Hid (q + 7 = t) := ⟨t - 7, Lib.hid (by omega)⟩
          obtain ⟨q15, HQ15⟩ : ∃ q, Hid (q + 15 = t) := ⟨t - 15, Lib.hid (by omega)⟩
          obtain ⟨q16, HQ16⟩ : ∃ q, Hid (q + 16 = t) := ⟨t - 16, Lib.hid (by omega)⟩
          have a2 : (t : Int) - 2 = (q2 : Int) := by have := HQ2.out; omega
          have a7 : (t : Int) - 7 = (q7 : Int) := by have := HQ7.out; omega
          have a15 : (t : Int) - 15 = (q15 : Int) := by have := HQ15.out; omega
          have a16 : (t : Int) - 16 = (q16 : Int) := by have := HQ16.out; omega
          have l2 : (q2 : Int) < t := by omega
          have l7 : (q7 : Int) < t := by omega
          have l15 : (q15 : Int) < t := by omega
          have l16 : (q16 : Int) < t := by omega
          have p2 : (0 : Int) ≤ q2 := by omega
          have p7 : (0 : Int) ≤ q7 := by omega
          have p15 : (0 : Int) ≤ q15 := by omega
          have p16 : (0 : Int) ≤ q16 := by omega
          have v7 : IntKind.i64.wrap (q7 : Int) = (q7 : Int) := by rw [IntKind.wrap_i64]; omega
          have v16 : IntKind.i64.wrap (q16 : Int) = (q16 : Int) := by rw [IntKind.wrap_i64]; omega
          obtain ⟨x, HX⟩ : ∃ x, Hid (x = (sched bs t).getD q15 0) := ⟨_, Lib.hid rfl⟩
          obtain ⟨y, HY⟩ : ∃ x, Hid (x = (sched bs t).getD q2 0) := ⟨_, Lib.hid rfl⟩
          obtain ⟨w7, HW7⟩ : ∃ x, Hid (x = (sched bs t).getD q7 0) := ⟨_, Lib.hid rfl⟩
          obtain ⟨w16, HW16⟩ : ∃ x, Hid (x = (sched bs t).getD q16 0) := ⟨_, Lib.hid rfl⟩
          have bx : x < 4294967296 := by rw [HX.out]; exact sched_get_lt _ _ _
          have by' : y < 4294967296 := by rw [HY.out]; exact sched_get_lt _ _ _
          have b7 : w7 < 4294967296 := by rw [HW7.out]; exact sched_get_lt _ _ _
          have b16 : w16 < 4294967296 := by rw [HW16.out]; exact sched_get_lt _ _ _
          have HC : Hid (∀ w', Below wr.heap.size wr w' → w'.cell? ⟨g, o + q15, none⟩ = some (.int .i64 (x : Int)) ∧ w'.cell? ⟨g, o + q2, none⟩ = some (.int .i64 (y : Int)) ∧ w'.cell? ⟨g, o + q7, none⟩ = some (.int .i64 (w7 : Int)) ∧ w'.cell? ⟨g, o + q16, none⟩ = some (.int .i64 (w16 : Int))) := Lib.hid (fun w' hb => by
            rw [HX.out, HY.out, HW7.out, HW16.out]
            exact ⟨rdn_get HS.out.rd hb (by rw [sched_length]; omega), rdn_get HS.out.rd hb (by rw [sched_length]; omega), rdn_get HS.out.rd hb (by rw [sched_length]; omega), rdn_get HS.out.rd hb (by rw [sched_length]; omega)⟩)
          have HSC : Hid (sched bs (t + 1) = sched bs t ++ [((sg1 y + w7) + sg0 x + w16) % 4294967296]) := by
            rw [sched, if_neg (by omega), schedStep, HX.out, HY.out, HW7.out, HW16.out, show t - 2 = q2 by have := HQ2.out; omega, show t - 7 = q7 by have := HQ7.out; omega, show t - 15 = q15 by have := HQ15.out; omega, show t - 16 = q16 by have := HQ16.out; omega]
            exact Lib.hid rfl
          obtain ⟨c15, c2', c7, c16⟩ := HC.out wr (Below.refl _ _)
          obtain ⟨r7, HR7⟩ : ∃ r, Hid (r = rotr 7 x) := ⟨_, Lib.hid rfl⟩
          obtain ⟨r18, HR18⟩ : ∃ r, Hid (r = rotr 18 x) := ⟨_, Lib.hid rfl⟩
          obtain ⟨r17, HR17⟩ : ∃ r, Hid (r = rotr 17 y) := ⟨_, Lib.hid rfl⟩
          obtain ⟨r19, HR19⟩ : ∃ r, Hid (r = rotr 19 y) := ⟨_, Lib.hid rfl⟩
          obtain ⟨s0, HS0⟩ : ∃ r, Hid (r = sg0 x) := ⟨_, Lib.hid rfl⟩
          obtain ⟨s1, HS1⟩ : ∃ r, Hid (r = sg1 y) := ⟨_, Lib.hid rfl⟩
          have b7' : r7 < 4294967296 := by rw [HR7.out]; exact rotr_lt 7 x bx
          have b18' : r18 < 4294967296 := by rw [HR18.out]; exact rotr_lt 18 x bx
          have b17' : r17 < 4294967296 := by rw [HR17.out]; exact rotr_lt 17 y by'
          have b19' : r19 < 4294967296 := by rw [HR19.out]; exact rotr_lt 19 y by'
          have fx : bits .xor .i64 (bits .xor .i64 (r7 : Int) (r18 : Int)) ((x : Int) / 8) = (s0 : Int) := by
            rw [xor_i64 _ _ b7' b18', show (x : Int) / 8 = ((x / 8 : Nat) : Int) by omega, xor_i64 _ _ (xor_lt32 b7' b18') (by omega), HS0.out, sg0, HR7.out, HR18.out]
          have fy : bits .xor .i64 (bits .xor .i64 (r17 : Int) (r19 : Int)) ((y : Int) / 1024) = (s1 : Int) := by
            rw [xor_i64 _ _ b17' b19', show (y : Int) / 1024 = ((y / 1024 : Nat) : Int) by omega, xor_i64 _ _ (xor_lt32 b17' b19') (by omega), HS1.out, sg1, HR17.out, HR19.out]
          have bs0 : s0 < 4294967296 := by
            have h : (x / 8) < 4294967296 := by omega
            rw [HS0.out, sg0, ← HR7.out, ← HR18.out]; exact xor_lt32 (xor_lt32 b7' b18') h
          have bs1 : s1 < 4294967296 := by
            have h : (y / 1024) < 4294967296 := by omega
            rw [HS1.out, sg1, ← HR17.out, ← HR19.out]; exact xor_lt32 (xor_lt32 b17' b19') h
          rw [← HS0.out, ← HS1.out] at HSC
          have FX := Lib.hid fx
          have FY := Lib.hid fy
          clear fx fy
          have T7 := Lib.hid (fun w => turn_7 x bx w)
          have T18 := Lib.hid (fun w => turn_18 x bx w)
          have T17 := Lib.hid (fun w => turn_17 y by' w)
          have T19 := Lib.hid (fun w => turn_19 y by' w)
          rw [← HR7.out] at T7
          rw [← HR18.out] at T18
          rw [← HR17.out] at T17
          rw [← HR19.out] at T19
          have e1 : IntKind.i64.wrap ((s1 : Int) + (w7 : Int)) = (s1 : Int) + (w7 : Int) := wsm _ (by omega) (by omega)
          have e2 : IntKind.i64.wrap ((s1 : Int) + (w7 : Int) + (s0 : Int)) = (s1 : Int) + (w7 : Int) + (s0 : Int) := wsm _ (by omega) (by omega)
          have e3 : IntKind.i64.wrap ((s1 : Int) + (w7 : Int) + (s0 : Int) + (w16 : Int)) = (s1 : Int) + (w7 : Int) + (s0 : Int) + (w16 : Int) := wsm _ (by omega) (by omega)
          have HTOP : Hid (∀ w, Calls Try.prog 31 #[.int .i64 ((s1 : Int) + (w7 : Int) + (s0 : Int) + (w16 : Int))] w (Num w ((s1 + w7 + s0 + w16) % 4294967296))) := Lib.hid (fun w => by
            have := top_any (s1 + w7 + s0 + w16) (by omega) w
            simpa only [Int.natCast_add] using this)
          go_wp2_with fail
          refine (T7.out wr).mono ?_
          rintro e w1 ⟨rfl, hb1⟩
          have HBA := Lib.hid hb1
          clear hb1
          go_wp2_with fail
          refine (T18.out w1).mono ?_
          rintro e w2 ⟨rfl, hb1⟩
          have HBB := Lib.hid (HBA.out.trans (hb1.mono HBA.out.size))
          have fx := FX.out
          clear hb1 HBA
          go_wp2_with fail
          refine (T17.out w2).mono ?_
          rintro e w3 ⟨rfl, hb1⟩
          have HBA := Lib.hid (HBB.out.trans (hb1.mono HBB.out.size))
          clear hb1 HBB fx
          go_wp2_with fail
          refine (T19.out w3).mono ?_
          rintro e w4 ⟨rfl, hb1⟩
          have HBB := Lib.hid (HBA.out.trans (hb1.mono HBA.out.size))
          have fy := FY.out
          clear hb1 HBA
          go_wp2_with fail
          clear fy c15 c2' c7 c16
          obtain ⟨c15, c2', c7, c16⟩ := HC.out w4.drew HBB.out.drew
          refine wp_region_held_drew (S := fun _ => True) (by kernel_rfl) trivial (fun hHeld => ?_)
          refine held_yes (i := 0) (v := ?_) rfl (by kernel_rfl) (by kernel_rfl) (by kernel_rfl) (fun _ _ _ h => h) (by rfl) (fun w hSw => ?_) hHeld ?_
          rotate_left
          · go_simp; try with_reducible rfl
          simp only [List.setIfInBounds_toArray, List.set_cons_zero, List.set_cons_succ]
          refine held_yes (i := 1) (v := ?_) rfl (by kernel_rfl) (by kernel_rfl) (by kernel_rfl) (fun _ _ _ h => h) (by rfl) (fun w hSw => ?_) hHeld ?_
          rotate_left
          · go_simp; try with_reducible rfl
          simp only [List.setIfInBounds_toArray, List.set_cons_zero, List.set_cons_succ]
          refine held_yes (i := 2) (v := ?_) rfl (by kernel_rfl) (by kernel_rfl) (by kernel_rfl) (fun _ _ _ h => h) (by rfl) (fun w hSw => ?_) hHeld ?_
          rotate_left
          · go_simp; try with_reducible rfl
          simp only [List.setIfInBounds_toArray, List.set_cons_zero, List.set_cons_succ]
          refine held_yes (i := 3) (v := ?_) rfl (by kernel_rfl) (by kernel_rfl) (by kernel_rfl) (fun _ _ _ h => h) (by rfl) (fun w hSw => ?_) hHeld ?_
          rotate_left
          · go_simp; try with_reducible rfl
          simp only [List.setIfInBounds_toArray, List.set_cons_zero, List.set_cons_succ]
          refine held_yes (i := 4) (v := ?_) rfl (by kernel_rfl) (by kernel_rfl) (by kernel_rfl) (fun _ _ _ h => h) (by rfl) (fun w hSw => ?_) hHeld ?_
          rotate_left
          · go_simp; try with_reducible rfl
          simp only [List.setIfInBounds_toArray, List.set_cons_zero, List.set_cons_succ]
          refine held_yes (i := 5) (v := ?_) rfl (by kernel_rfl) (by kernel_rfl) (by kernel_rfl) (fun _ _ _ h => h) (by rfl) (fun w hSw => ?_) hHeld ?_
          rotate_left
          · go_simp; try with_reducible rfl
          simp only [List.setIfInBounds_toArray, List.set_cons_zero, List.set_cons_succ]
          refine held_yes (i := 8) (v := ?_) rfl (by kernel_rfl) (by kernel_rfl) (by kernel_rfl) (fun _ _ _ h => h) (by rfl) (fun w hSw => ?_) hHeld ?_
          rotate_left
          · go_simp; try with_reducible rfl
          simp only [List.setIfInBounds_toArray, List.set_cons_zero, List.set_cons_succ]
          refine held_yes (i := 10) (v := ?_) rfl (by kernel_rfl) (by kernel_rfl) (by kernel_rfl) (fun _ _ _ h => h) (by rfl) (fun w hSw => ?_) hHeld ?_
          rotate_left
          · go_simp; try with_reducible rfl
          simp only [List.setIfInBounds_toArray, List.set_cons_zero, List.set_cons_succ]
          refine held_yes (i := 11) (v := ?_) rfl (by kernel_rfl) (by kernel_rfl) (by kernel_rfl) (fun _ _ _ h => h) (by rfl) (fun w hSw => ?_) hHeld ?_
          rotate_left
          · go_simp; try with_reducible rfl
          simp only [List.setIfInBounds_toArray, List.set_cons_zero, List.set_cons_succ]
          refine held_yes (i := 12) (v := ?_) rfl (by kernel_rfl) (by kernel_rfl) (by kernel_rfl) (fun _ _ _ h => h) (by rfl) (fun w hSw => ?_) hHeld ?_
          rotate_left
          · go_simp; try with_reducible rfl
          simp only [List.setIfInBounds_toArray, List.set_cons_zero, List.set_cons_succ]
          refine held_yes (i := 13) (v := ?_) rfl (by kernel_rfl) (by kernel_rfl) (by kernel_rfl) (fun _ _ _ h => h) (by rfl) (fun w hSw => ?_) hHeld ?_
          rotate_left
          · go_simp; try with_reducible rfl
          simp only [List.setIfInBounds_toArray, List.set_cons_zero, List.set_cons_succ]
          refine wpAnyH_ready (rs := [6, 14]) (by kernel_rfl) (by simp) (AllReadyH.cons rfl (fun K hK => ?_) (AllReadyH.cons rfl (fun K hK => ?_) AllReadyH.nil))
          · skip
            rw [if_pos (by rfl)]
            go_wp2_with fail
            refine hK.out _ _ trivial (fun hHeld => ?_)
            clear hK K
            try simp only [Act.put, List.setIfInBounds_toArray, List.set_cons_zero, List.set_cons_succ]
            refine held_yes (i := 7) (v := ?_) rfl (by kernel_rfl) (by kernel_rfl) (by kernel_rfl) (fun _ _ _ h => h) (by rfl) (fun w hSw => ?_) hHeld ?_
            rotate_left
            · go_simp; try with_reducible rfl
            simp only [List.setIfInBounds_toArray, List.set_cons_zero, List.set_cons_succ]
            refine held_yes (i := 9) (v := ?_) rfl (by kernel_rfl) (by kernel_rfl) (by kernel_rfl) (fun _ _ _ h => h) (by rfl) (fun w hSw => ?_) hHeld ?_
            rotate_left
            · go_simp; try with_reducible rfl
            simp only [List.setIfInBounds_toArray, List.set_cons_zero, List.set_cons_succ]
            refine held_only (i := 14) (by kernel_rfl) rfl (fun K hK => ?_)
            rw [if_pos (by rfl)]
            go_wp2_with fail
            refine hK.out _ _ trivial (fun hHeld => ?_)
            clear hK K
            try simp only [Act.put, List.setIfInBounds_toArray, List.set_cons_zero, List.set_cons_succ]
            refine held_yes (i := 15) (v := ?_) rfl (by kernel_rfl) (by kernel_rfl) (by kernel_rfl) (fun _ _ _ h => h) (by rfl) (fun w hSw => ?_) hHeld ?_
            rotate_left
            · go_simp; try with_reducible rfl
            simp only [List.setIfInBounds_toArray, List.set_cons_zero, List.set_cons_succ]
            refine held_only (i := 16) (by kernel_rfl) rfl (fun K hK => ?_)
            rw [if_pos (by rfl)]
            go_simp
            refine (HTOP.out w4.drew).mono ?_
            rintro e wq3 ⟨rfl, hb1⟩
            have HBT := Lib.hid hb1
            clear hb1
            go_wp2_with fail
            refine hK.out _ _ trivial (fun hHeld => ?_)
            clear hK K
            try simp only [Act.put, List.setIfInBounds_toArray, List.set_cons_zero, List.set_cons_succ]
            refine held_only (i := 17) (by kernel_rfl) rfl (fun K hK => ?_)
            rw [if_pos (by rfl)]
            go_wp2_with fail
            refine world_at (F := fun wx => Below wq3.heap.size wq3 wx ∧ Rd wx 1 (some ⟨wq3.heap.size, 0, none⟩) 1 1 (ivs [(s1 + w7 + s0 + w16) % 4294967296])) ⟨(Below.refl _ _).alloc (Nat.le_refl _) _, rd_lit wq3 #[.int .i64 (((s1 + w7 + s0 + w16) % 4294967296 : Nat) : Int)] _ 1 1 rfl (by simp [maxLen])⟩ (fun wq4 HF => ?_)
            have HBL := Lib.hid (HBT.out.trans (HF.out.1.mono HBT.out.size))
            have HRL := Lib.hid HF.out.2
            clear HF
            refine hK.out _ _ trivial (fun hHeld => ?_)
            clear hK K
            try simp only [Act.put, List.setIfInBounds_toArray, List.set_cons_zero, List.set_cons_succ]
            refine held_only (i := 18) (by kernel_rfl) rfl (fun K hK => ?_)
            rw [if_pos (by rfl)]
            have HSA := Lib.hid (HS.out.below (show Below wr.heap.size wr wq4 from HBB.out.drew.trans (HBL.out.mono HBB.out.drew.size)))
            have HBA := Lib.hid (HB.out.trans ((HBB.out.drew.trans (HBL.out.mono HBB.out.drew.size)).mono HB.out.size))
            refine wp_append_seg _ _ _ _ rfl ei_int rfl HSA.out rfl (HRL.out.src Try.underlying73 (ivs_one _)) (by simp only [maxLen]; omega) (by omega) HBA.out.size ?_
            intro A9 c9 wq5 hs9 hg9
            have HS9 := Lib.hid hs9
            have HB9 := Lib.hid (HBA.out.grown hg9 HBA.out.size HSA.out.own_row)
            clear hs9 hg9
            refine hK.out _ _ trivial (fun hHeld => ?_)
            clear hK K
            try simp only [Act.put, List.setIfInBounds_toArray, List.set_cons_zero, List.set_cons_succ]
            refine held_yes (i := 19) (v := ?_) rfl (by kernel_rfl) (by kernel_rfl) (by kernel_rfl) (fun _ _ _ h => h) (by rfl) (fun w hSw => ?_) hHeld ?_
            rotate_left
            · go_simp; try with_reducible rfl
            simp only [List.setIfInBounds_toArray, List.set_cons_zero, List.set_cons_succ]
            refine wpAnyH_done (by kernel_rfl) ?_ _
            go_wp2_with fail
            case roundEnd =>
              refine ⟨⟨t + 1, A9, c9, by omega, by omega, rfl, by push_cast; rfl, ?_, HB9.out⟩, by simp only [intOf]; omega⟩
              have h := HS9.out
              rw [← ivs_append, ← HSC.out] at h
              exact h
          · skip
            rw [if_pos (by rfl)]
            go_wp2_with fail
            refine hK.out _ _ trivial (fun hHeld => ?_)
            clear hK K
            try simp only [Act.put, List.setIfInBounds_toArray, List.set_cons_zero, List.set_cons_succ]
            refine held_only (i := 6) (by kernel_rfl) rfl (fun K hK => ?_)
            rw [if_pos (by rfl)]
            go_wp2_with fail
            refine hK.out _ _ trivial (fun hHeld => ?_)
            clear hK K
            try simp only [Act.put, List.setIfInBounds_toArray, List.set_cons_zero, List.set_cons_succ]
            refine held_yes (i := 7) (v := ?_) rfl (by kernel_rfl) (by kernel_rfl) (by kernel_rfl) (fun _ _ _ h => h) (by rfl) (fun w hSw => ?_) hHeld ?_
            rotate_left
            · go_simp; try with_reducible rfl
            simp only [List.setIfInBounds_toArray, List.set_cons_zero, List.set_cons_succ]
            refine held_yes (i := 9) (v := ?_) rfl (by kernel_rfl) (by kernel_rfl) (by kernel_rfl) (fun _ _ _ h => h) (by rfl) (fun w hSw => ?_) hHeld ?_
            rotate_left
            · go_simp; try with_reducible rfl
            simp only [List.setIfInBounds_toArray, List.set_cons_zero, List.set_cons_succ]
            refine held_yes (i := 15) (v := ?_) rfl (by kernel_rfl) (by kernel_rfl) (by kernel_rfl) (fun _ _ _ h => h) (by rfl) (fun w hSw => ?_) hHeld ?_
            rotate_left
            · go_simp; try with_reducible rfl
            simp only [List.setIfInBounds_toArray, List.set_cons_zero, List.set_cons_succ]
            refine held_only (i := 16) (by kernel_rfl) rfl (fun K hK => ?_)
            rw [if_pos (by rfl)]
            go_simp
            refine (HTOP.out w4.drew).mono ?_
            rintro e wq8 ⟨rfl, hb1⟩
            have HBT := Lib.hid hb1
            clear hb1
            go_wp2_with fail
            refine hK.out _ _ trivial (fun hHeld => ?_)
            clear hK K
            try simp only [Act.put, List.setIfInBounds_toArray, List.set_cons_zero, List.set_cons_succ]
            refine held_only (i := 17) (by kernel_rfl) rfl (fun K hK => ?_)
            rw [if_pos (by rfl)]
            go_wp2_with fail
            refine world_at (F := fun wx => Below wq8.heap.size wq8 wx ∧ Rd wx 1 (some ⟨wq8.heap.size, 0, none⟩) 1 1 (ivs [(s1 + w7 + s0 + w16) % 4294967296])) ⟨(Below.refl _ _).alloc (Nat.le_refl _) _, rd_lit wq8 #[.int .i64 (((s1 + w7 + s0 + w16) % 4294967296 : Nat) : Int)] _ 1 1 rfl (by simp [maxLen])⟩ (fun wq9 HF => ?_)
            have HBL := Lib.hid (HBT.out.trans (HF.out.1.mono HBT.out.size))
            have HRL := Lib.hid HF.out.2
            clear HF
            refine hK.out _ _ trivial (fun hHeld => ?_)
            clear hK K
            try simp only [Act.put, List.setIfInBounds_toArray, List.set_cons_zero, List.set_cons_succ]
            refine held_only (i := 18) (by kernel_rfl) rfl (fun K hK => ?_)
            rw [if_pos (by rfl)]
            have HSA := Lib.hid (HS.out.below (show Below wr.heap.size wr wq9 from HBB.out.drew.trans (HBL.out.mono HBB.out.drew.size)))
            have HBA := Lib.hid (HB.out.trans ((HBB.out.drew.trans (HBL.out.mono HBB.out.drew.size)).mono HB.out.size))
            refine wp_append_seg _ _ _ _ rfl ei_int rfl HSA.out rfl (HRL.out.src Try.underlying73 (ivs_one _)) (by simp only [maxLen]; omega) (by omega) HBA.out.size ?_
            intro A9 c9 wq10 hs9 hg9
            have HS9 := Lib.hid hs9
            have HB9 := Lib.hid (HBA.out.grown hg9 HBA.out.size HSA.out.own_row)
            clear hs9 hg9
            refine hK.out _ _ trivial (fun hHeld => ?_)
            clear hK K
            try simp only [Act.put, List.setIfInBounds_toArray, List.set_cons_zero, List.set_cons_succ]
            refine held_yes (i := 19) (v := ?_) rfl (by kernel_rfl) (by kernel_rfl) (by kernel_rfl) (fun _ _ _ h => h) (by rfl) (fun w hSw => ?_) hHeld ?_
            rotate_left
            · go_simp; try with_reducible rfl
            simp only [List.setIfInBounds_toArray, List.set_cons_zero, List.set_cons_succ]
            refine wpAnyH_done (by kernel_rfl) ?_ _
            go_wp2_with fail
            case roundEnd =>
              refine ⟨⟨t + 1, A9, c9, by omega, by omega, rfl, by push_cast; rfl, ?_, HB9.out⟩, by simp only [intOf]; omega⟩
              have h := HS9.out
              rw [← ivs_append, ← HSC.out] at h
              exact h
        · obtain rfl : t = 64 := by omega
          go_wp2_with fail
          go_ret
          exact ⟨A3, c3, rfl, HS.out, HB.out⟩
end Go.Proofs.Ythpigmkdchnnoaa
