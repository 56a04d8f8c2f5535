/- The walk of locketref01.Sum. -/
import Derived.Test.YthpigmkdchnnoaaRefH
namespace Go.Proofs.Ythpigmkdchnnoaa
open Go.RowKit
set_option linter.unusedVariables false
set_option linter.unusedSimpArgs false

/-- At the head of the blocks' loop. -/
structure RAt (w W0 : World) (gh oh ch : Nat) (st : List Nat) (wr : World) : Prop where
  seg : Seg wr w.heap.size 1 (some ⟨gh, oh, none⟩) 8 ch (ivs st)
  touch : Touch (fun i => i = gh) W0 wr
  below : Below w.heap.size w wr
theorem touch_of_below {W0 wr wn : World} {gh : Nat} (h : Touch (fun i => i = gh) W0 wr) (hb : Below wr.heap.size wr wn) : Touch (fun i => i = gh) W0 wn := h.trans (Touch.of_below hb) (fun _ _ e => e)
namespace RAt
variable {w W0 wr wn : World} {gh oh ch : Nat} {st : List Nat}
theorem drop_ (h : RAt w W0 gh oh ch st wr) (hb : Below wr.heap.size wr wn) : RAt w W0 gh oh ch st wn := ⟨h.seg.below hb, touch_of_below h.touch hb, h.below.trans (hb.mono h.below.size)⟩
theorem put (h : RAt w W0 gh oh ch st wr) {j : Nat} (hj : j < 8) (x : Nat) : RAt w W0 gh oh ch (st.set j x) (wr.setCell ⟨gh, oh + j, none⟩ (.int .i64 (x : Int))) := by
  have hb := h.seg.base_le ⟨gh, oh, none⟩ rfl
  refine ⟨?_, h.touch.trans (Touch.setCell wr ⟨gh, oh + j, none⟩ _ (S := fun i => i = gh) rfl) (fun _ _ e => e), h.below.setCell (by simpa using hb) _⟩
  rw [← ivs_set]
  exact h.seg.put hj _
end RAt
theorem seg_ints (w : World) (cs : Array Value) (l : List Nat) (h : cs.toList = ivs l) (hl : l.length = 8) : Seg (w.alloc (.cells cs 3)) w.heap.size 1 (some ⟨w.heap.size, 0, none⟩) 8 8 (ivs l) := by
  have hs : cs.size = 8 := by rw [← Array.length_toList, h, ivs_length, hl]
  have hnew := heap_alloc_new w (.cells cs 3)
  refine ⟨by rw [ivs_length, hl], Nat.le_refl _, by simp [maxLen], .inr ⟨w.heap.size, 0, rfl, ⟨Nat.le_refl _, by simp⟩, fun j hj => ⟨?_, by simp only [World.frozen?, hnew]; simp⟩, fun j u hu => ?_⟩⟩
  · rw [cell_of_row _ _ _ _ _ _ hnew, Array.getElem?_eq_getElem (by omega)]; rfl
  · rw [cell_of_row _ _ _ _ _ _ hnew, Nat.zero_add]
    rw [← h] at hu
    simpa using hu
set_option maxRecDepth 100000 in
set_option maxHeartbeats 4000000 in
theorem rsum_any (A : Option Addr) (n c : Nat) (msg : List UInt8) (w : World) (hr : Rd w 1 A n c (bvs msg)) (hn : n ≤ 1000000) :
    Calls Try.prog 19 #[.slice A n c] w fun e w' => ∃ A' c', e = .returned (.slice A' 32 c') ∧ Seg w' w.heap.size 1 A' 32 c' (bvs (sumB msg)) ∧ Below w.heap.size w w' := by
  have hl : msg.length = n := by have := hr.len; rw [bvs_length] at this; omega
  have HL := Lib.hid hl
  have HR := Lib.hid (hr.below ((Below.refl _ _).alloc (Nat.le_refl _) (.cells #[] 5)))
  clear hr hl
  go_enter Try.func19, Try.ntmps19
  go_wp2_with (first | (at_builtin; refine wpList_append_seg rfl _ _ _ _ rfl ei_u8 rfl (seg_empty w _) rfl (HR.out.src Try.underlying32 (bvs_one _)) (by simp only [maxLen]; omega) (by omega) (by simp) ?_; intro A1 c1 w1 hs1 hg1 _; rw [Nat.zero_add] at hs1; have HB1 := Lib.hid (((Below.refl w.heap.size w).alloc (Nat.le_refl _) (.cells #[] 5)).grown hg1 (by simp) (fun r hr => by cases hr; exact Nat.le_refl _)); have HS1 := Lib.hid (hs1.below ((Below.refl _ _).alloc (Nat.le_refl _) (.cells #[.int .u8 128] 5))); clear hs1 hg1) | (at_builtin; refine wpList_append_seg rfl _ _ _ _ rfl ei_u8 rfl HS1.out rfl ((seg_lit w1 #[.int .u8 128] [128] _ w1.heap.size rfl (Nat.le_refl _) (by decide)).rd.src Try.underlying32 (bvs_one _)) (by simp only [maxLen, List.length_cons, List.length_nil]; omega) (by simp only [List.length_cons, List.length_nil]; omega) (by have := HB1.out.size; simp; omega) ?_; intro A2 c2 w2 hs2 hg2 _; have HB2 := Lib.hid ((HB1.out.alloc HB1.out.size (.cells #[.int .u8 128] 5)).grown hg2 (by have := HB1.out.size; simp; omega) HS1.out.own_row); have HS2 := Lib.hid hs2; clear hs2 hg2))
  have HS3 : Hid (Seg w2 w.heap.size 1 A2 (n + 1 + 0) c2 (bvs (msg ++ [128] ++ zeros 0))) := Lib.hid (by have h := HS2.out; simpa [bvs, zeros] using h)
  clear HS1 HB1 HS2
  obtain ⟨z, hz⟩ : ∃ z, z = (119 - n % 64) % 64 := ⟨_, rfl⟩
  go_loopw [3] (fun s3 wr => ∃ j A' c', s3 = .slice A' (n + 1 + j) c' ∧ j ≤ z ∧ Seg wr w.heap.size 1 A' (n + 1 + j) c' (bvs (msg ++ [128] ++ zeros j)) ∧ Below w.heap.size w wr) (fun s3 _ => 2000000 - lenOf s3)
  case atStart => exact ⟨0, _, _, rfl, by omega, HS3.out, HB2.out⟩
  case round =>
    obtain ⟨j, A3, c3, rfl, hj, hs3, hb3⟩ := hrel
    have HS := Lib.hid hs3
    have HB := Lib.hid hb3
    clear hs3 hb3 HS3 HB2
    by_cases hlt : j < z
    · have hgd : (((n : Int) + 1 + (j : Int)) % 64 != 56) = true := by rw [bne_iff_ne]; omega
      have HS1 := Lib.hid (HS.out.below ((Below.refl _ _).alloc (Nat.le_refl _) (.cells #[.int .u8 0] 5)))
      go_wp2_with (at_builtin; refine wpList_append_seg rfl _ _ _ _ rfl ei_u8 rfl HS1.out rfl ((seg_lit wr #[.int .u8 0] [0] _ wr.heap.size rfl (Nat.le_refl _) (by decide)).rd.src Try.underlying32 (bvs_one _)) (by simp only [maxLen, List.length_cons, List.length_nil]; omega) (by simp only [List.length_cons, List.length_nil]; omega) (by have := HB.out.size; simp; omega) ?_; intro A4 c4 w4 hs4 hg4 _; have HB4 := Lib.hid ((HB.out.alloc HB.out.size (.cells #[.int .u8 0] 5)).grown hg4 (by have := HB.out.size; simp; omega) HS1.out.own_row); have HS4 := Lib.hid hs4; clear hs4 hg4)
      case roundEnd =>
        refine ⟨⟨j + 1, _, _, rfl, by omega, ?_, HB4.out⟩, by simp only [lenOf]; omega⟩
        have h := HS4.out
        rw [show bvs (msg ++ [128] ++ zeros j) ++ bvs [0] = bvs (msg ++ [128] ++ zeros (j + 1)) by simp [bvs, zeros, List.replicate_succ']] at h
        exact h
    · obtain rfl : j = z := by omega
      have hgd : (((n : Int) + 1 + (j : Int)) % 64 != 56) = false := by rw [bne_eq_false_iff_eq]; omega
      have HZ := Lib.hid hz
      have hj64 : j < 64 := by omega
      have hL64 : ∃ N, n + 1 + j + 4 + 4 = 64 * N := ⟨(n + 1 + j + 8) / 64, by omega⟩
      obtain ⟨N, hN'⟩ := hL64
      have HN := Lib.hid hN'
      clear hz hN'
      have HS1 := Lib.hid (HS.out.below ((Below.refl _ _).alloc (Nat.le_refl _) (.cells #[.int .u8 0, .int .u8 0, .int .u8 0, .int .u8 0] 5)))
      have HLIT : Hid ((#[Value.int .u8 (8 * (n : Int) / 16777216), Value.int .u8 (8 * (n : Int) / 65536 % 256), Value.int .u8 (8 * (n : Int) / 256 % 256), Value.int .u8 (8 * (n : Int) % 256)] : Array Value).toList = bvs [UInt8.ofNat (8 * n / 16777216), UInt8.ofNat (8 * n / 65536 % 256), UInt8.ofNat (8 * n / 256 % 256), UInt8.ofNat (8 * n % 256)]) := Lib.hid (by simp [bvs, bv_ofNat]; omega)
      go_wp2_with (first | (at_builtin; refine wpList_append_seg rfl _ _ _ _ rfl ei_u8 rfl HS1.out rfl ((seg_lit wr #[.int .u8 0, .int .u8 0, .int .u8 0, .int .u8 0] [0, 0, 0, 0] _ wr.heap.size rfl (Nat.le_refl _) (by decide)).rd.src Try.underlying32 (bvs_one _)) (by simp only [maxLen, List.length_cons, List.length_nil]; omega) (by simp only [List.length_cons, List.length_nil]; omega) (by have := HB.out.size; simp; omega) ?_; intro A4 c4 w4 hs4 hg4 _; have HB4 := Lib.hid ((HB.out.alloc HB.out.size (.cells #[.int .u8 0, .int .u8 0, .int .u8 0, .int .u8 0] 5)).grown hg4 (by have := HB.out.size; simp; omega) HS1.out.own_row); have HS4 := Lib.hid (hs4.below ((Below.refl _ _).alloc (Nat.le_refl _) (.cells #[Value.int .u8 (8 * (n : Int) / 16777216), Value.int .u8 (8 * (n : Int) / 65536 % 256), Value.int .u8 (8 * (n : Int) / 256 % 256), Value.int .u8 (8 * (n : Int) % 256)] 5))); clear hs4 hg4) | (at_builtin; refine wpList_append_seg rfl _ _ _ _ rfl ei_u8 rfl HS4.out rfl ((seg_lit w4 _ [UInt8.ofNat (8 * n / 16777216), UInt8.ofNat (8 * n / 65536 % 256), UInt8.ofNat (8 * n / 256 % 256), UInt8.ofNat (8 * n % 256)] _ w4.heap.size HLIT.out (Nat.le_refl _) (by simp [maxLen])).rd.src Try.underlying32 (bvs_one _)) (by simp only [maxLen, List.length_cons, List.length_nil]; omega) (by simp only [List.length_cons, List.length_nil]; omega) (by have := HB4.out.size; simp; omega) ?_; intro A5 c5 w5 hs5 hg5 _; have HB5 := Lib.hid ((HB4.out.alloc HB4.out.size (.cells #[Value.int .u8 (8 * (n : Int) / 16777216), Value.int .u8 (8 * (n : Int) / 65536 % 256), Value.int .u8 (8 * (n : Int) / 256 % 256), Value.int .u8 (8 * (n : Int) % 256)] 5)).grown hg5 (by have := HB4.out.size; simp; omega) HS4.out.own_row); have HS5 := Lib.hid hs5; clear hs5 hg5))
      obtain ⟨Lb, HLb⟩ : ∃ l, Hid (l = n + 1 + j + 4 + 4) := ⟨_, Lib.hid rfl⟩
      have hLb : Lb = 64 * N := by have := HLb.out; have := HN.out; omega
      have HSB5 : Hid (Seg w5 w.heap.size 1 A5 Lb c5 (bvs (fullB msg))) := Lib.hid (by
        have h := HS5.out
        rw [HLb.out]
        have hf : bvs (msg ++ [128] ++ zeros j) ++ bvs [0, 0, 0, 0] ++ bvs [UInt8.ofNat (8 * n / 16777216), UInt8.ofNat (8 * n / 65536 % 256), UInt8.ofNat (8 * n / 256 % 256), UInt8.ofNat (8 * n % 256)] = bvs (fullB msg) := by
          rw [fullB, HL.out, ← HZ.out]; simp [bvs]
        rw [hf] at h
        exact h)
      refine (roots_64 w5).mono ?_
      rintro e w6 ⟨Ak, ck, rfl, hs6, hb6⟩
      rw [out_64, zvs_ofNat] at hs6
      have HSK6 := Lib.hid (hs6.mono (base' := w.heap.size) HB5.out.size)
      have HB6 := Lib.hid (HB5.out.trans (hb6.mono HB5.out.size))
      have HSB6 := Lib.hid (HSB5.out.below hb6)
      clear hs6 hb6 HSB5 HS5 HS4 HLIT HB4 HS1
      go_wp2_with fail
      refine (roots_8 w6).mono ?_
      rintro e w7 ⟨Ah, hcp, rfl, hs7, hb7⟩
      rw [out_8, zvs_ofNat] at hs7
      obtain ⟨gh, oh, rfl, _⟩ := hs7.rd.at_ (by omega)
      have hgh := hs7.base_le ⟨gh, oh, none⟩ rfl
      have HB7 := Lib.hid (HB6.out.trans (hb7.mono HB6.out.size))
      have HSH := Lib.hid (hs7.mono (base' := w.heap.size) HB6.out.size)
      have HSB := Lib.hid (HSB6.out.below hb7)
      have HSK := Lib.hid (HSK6.out.below hb7)
      have HNB : Hid (∀ a, A5 = some a → a.block ≠ gh) := Lib.hid (fun a ha e => by have := HSB6.out.lt a ha; simp at hgh; omega)
      have HNK : Hid (∀ a, Ak = some a → a.block ≠ gh) := Lib.hid (fun a ha e => by have := HSK6.out.lt a ha; simp at hgh; omega)
      clear hs7 hb7 hgh HSB6 HSK6
      have HR0 : Hid (RAt w w7 gh oh hcp (runB (fullB msg) h0 0) w7) := Lib.hid ⟨HSH.out, Touch.refl _ _, HB7.out⟩
      have hf : n + 1 + j + 4 + 4 = Lb := HLb.out.symm
      go_wp2_with fail
      try simp only [hf]
      clear hf
      go_loopw [7] (fun s7 wr => ∃ jb : Nat, jb ≤ N ∧ s7 = .int .i64 ((64 * jb : Nat) : Int) ∧ RAt w w7 gh oh hcp (runB (fullB msg) h0 jb) wr) (fun s7 _ => Lb - (intOf s7).toNat)
      case atStart => exact ⟨0, by omega, rfl, HR0.out⟩
      case round =>
        obtain ⟨jb, hjb, rfl, hra⟩ := hrel
        have HRA := Lib.hid hra
        clear hra HR0 HSH
        by_cases hlt2 : jb < N
        · obtain ⟨q, HQ⟩ : ∃ q, Hid (q = 64 * jb) := ⟨_, Lib.hid rfl⟩
          rw [← HQ.out]
          obtain ⟨gb, ob, rfl, _⟩ := HSB.out.rd.at_ (by omega)
          have hq0 : q + 64 ≤ Lb := by have := HQ.out; omega
          have hcb : Lb ≤ c5 := HSB.out.cap
          have hck : ¬ c5 = q := by omega
          have hk1 : (q : Int) + 64 ≤ c5 := by omega
          have hqL : (q : Int) < Lb := by omega
          have hqN : q < 10000000 := by have := HLb.out; omega
          have HRB := Lib.hid (HSB.out.rd.touch HRA.out.touch (fun a ha => HNB.out a ha))
          have HRK := Lib.hid (HSK.out.rd.touch HRA.out.touch (fun a ha => HNK.out a ha))
          have HSC := Lib.hid (rsched_any _ 64 (c5 - q) (((fullB msg).drop q).take 64) wr (HRB.out.sub' (i := q) (m := 64) (by omega)) (by omega))
          rw [sched_take _ 64 (Nat.le_refl _)] at HSC
          obtain ⟨st, HST⟩ : ∃ l, Hid (l = runB (fullB msg) h0 jb) := ⟨_, Lib.hid rfl⟩
          have HSOK : Hid (st.length = 8 ∧ ∀ y ∈ st, y < 4294967296) := by rw [HST.out]; exact Lib.hid (runB_ok _ h0_ok jb)
          rw [← HST.out] at HRA
          obtain ⟨ws, HWS⟩ : ∃ l, Hid (l = sched ((fullB msg).drop q) 64) := ⟨_, Lib.hid rfl⟩
          rw [← HWS.out] at HSC
          have HNX : Hid (runB (fullB msg) h0 (jb + 1) = addL st (rounds ws st 64) 8) := by rw [runB, compB, comp, ← HST.out, ← HQ.out, ← HWS.out, addL_comm]; exact Lib.hid rfl
          go_wp2_with fail
          refine HSC.out.mono ?_
          rintro e w8 ⟨Aw, cw, rfl, hs8, hb8⟩
          have HSW := Lib.hid hs8
          have HRA8 := Lib.hid (HRA.out.drop_ hb8)
          have HRK8 := Lib.hid (HRK.out.below hb8)
          clear hs8 hb8 HSC
          go_wp2_with (at_builtin; refine wpList_append_seg rfl _ _ _ _ rfl ei_int rfl (seg_empty w8 3) rfl ((HRA8.out.seg.rd.below ((Below.refl _ _).alloc (Nat.le_refl _) _)).src Try.underlying73 (ivs_one _)) (by simp [maxLen]) (by simp) (by simp) ?_; intro A9 c9 w9 hs9 hg9 _; rw [Nat.zero_add, show bvs [] ++ ivs st = ivs st from rfl] at hs9; have HB9 := Lib.hid (((Below.refl w8.heap.size w8).alloc (Nat.le_refl _) (.cells #[] 3)).grown hg9 (by simp) (fun k hk => by cases hk; exact Nat.le_refl _)); have HS9 := Lib.hid hs9; clear hs9 hg9)
          have HRS0 : Hid (Seg w9 w8.heap.size 1 A9 8 c9 (ivs (rounds ws st 0))) := HS9
          have HRA9 := Lib.hid (HRA8.out.drop_ HB9.out)
          have HRK9 := Lib.hid (HRK8.out.below HB9.out)
          have HSW9 := Lib.hid (HSW.out.rd.below HB9.out)
          obtain ⟨gw, ow, rfl, _⟩ := HSW9.out.at_ (by omega)
          obtain ⟨gk, ok, rfl, _⟩ := HRK9.out.at_ (by omega)
          have hb89 := HB9.out.size
          have hghl : gh < w8.heap.size := HRA8.out.seg.lt ⟨gh, oh, none⟩ rfl
          clear HS9 HSW HRK8 HRA8 HRK HRB
          go_loopw [9, 10] (fun s9 s10 wx => ∃ (t : Nat) (As : Option Addr) (cs : Nat), t ≤ 64 ∧ s9 = .slice As 8 cs ∧ s10 = .int .i64 (t : Int) ∧ Seg wx w8.heap.size 1 As 8 cs (ivs (rounds ws st t)) ∧ Below w9.heap.size w9 wx) (fun _ s10 _ => 64 - (intOf s10).toNat)
          case atStart => exact ⟨0, A9, c9, by omega, rfl, rfl, HRS0.out, Below.refl _ _⟩
          case round =>
           obtain ⟨t, As, cs, ht, rfl, rfl, hs, hb⟩ := hrel
           have HSS := Lib.hid hs
           have HBL := Lib.hid hb
           clear hs hb HRS0
           by_cases hlt3 : t < 64
           · obtain ⟨gs, os, rfl, _⟩ := HSS.out.rd.at_ (by omega)
             have HRO := Lib.hid (rounds_ok ws HSOK.out t)
             obtain ⟨a, b, c, d, e, f, g, h, hcur⟩ := eight HRO.out.1
             have HCUR := Lib.hid hcur
             rw [hcur] at HSS
             have hlt32 := HRO.out.2
             rw [hcur] at hlt32
             simp only [List.mem_cons, List.not_mem_nil, or_false, forall_eq_or_imp, forall_eq] at hlt32
             obtain ⟨ba, bb, bc, bd, be, bf, bg, bh⟩ := hlt32
             obtain ⟨kt, HKT⟩ : ∃ x, Hid (x = kL.getD t 0) := ⟨_, Lib.hid rfl⟩
             obtain ⟨wt, HWT⟩ : ∃ x, Hid (x = ws.getD t 0) := ⟨_, Lib.hid rfl⟩
             have bk : kt < 4294967296 := by rw [HKT.out]; exact kL_lt t
             have bw : wt < 4294967296 := by rw [HWT.out, HWS.out]; exact sched_get_lt _ _ _
             have hwl : ws.length = 64 := by rw [HWS.out, sched_length]
             have HC : Hid (∀ w', Below wr.heap.size wr w' → w'.cell? ⟨gs, os, none⟩ = some (.int .i64 (a : Int)) ∧ w'.cell? ⟨gs, os + 1, none⟩ = some (.int .i64 (b : Int)) ∧ w'.cell? ⟨gs, os + 2, none⟩ = some (.int .i64 (c : Int)) ∧ w'.cell? ⟨gs, os + 3, none⟩ = some (.int .i64 (d : Int)) ∧ w'.cell? ⟨gs, os + 4, none⟩ = some (.int .i64 (e : Int)) ∧ w'.cell? ⟨gs, os + 5, none⟩ = some (.int .i64 (f : Int)) ∧ w'.cell? ⟨gs, os + 6, none⟩ = some (.int .i64 (g : Int)) ∧ w'.cell? ⟨gs, os + 7, none⟩ = some (.int .i64 (h : Int)) ∧ w'.cell? ⟨gk, ok + t, none⟩ = some (.int .i64 (kt : Int)) ∧ w'.cell? ⟨gw, ow + t, none⟩ = some (.int .i64 (wt : Int))) := Lib.hid (fun w' hb => by
               have hc := fun (j : Nat) (hj : j < 8) => rdn_get HSS.out.rd hb (j := j) (by simpa using hj)
               have hbb := HBL.out.trans (hb.mono HBL.out.size)
               refine ⟨hc 0 (by omega), hc 1 (by omega), hc 2 (by omega), hc 3 (by omega), hc 4 (by omega), hc 5 (by omega), hc 6 (by omega), hc 7 (by omega), ?_, ?_⟩
               · rw [HKT.out]; exact rdn_get HRK9.out hbb (by show t < 64; exact hlt3)
               · rw [HWT.out]; exact rdn_get HSW9.out hbb (by rw [hwl]; exact hlt3))
             obtain ⟨r6, HR6⟩ : ∃ r, Hid (r = rotr 6 e) := ⟨_, Lib.hid rfl⟩
             obtain ⟨r11, HR11⟩ : ∃ r, Hid (r = rotr 11 e) := ⟨_, Lib.hid rfl⟩
             obtain ⟨r25, HR25⟩ : ∃ r, Hid (r = rotr 25 e) := ⟨_, Lib.hid rfl⟩
             obtain ⟨r2, HR2⟩ : ∃ r, Hid (r = rotr 2 a) := ⟨_, Lib.hid rfl⟩
             obtain ⟨r13, HR13⟩ : ∃ r, Hid (r = rotr 13 a) := ⟨_, Lib.hid rfl⟩
             obtain ⟨r22, HR22⟩ : ∃ r, Hid (r = rotr 22 a) := ⟨_, Lib.hid rfl⟩
             have b6 : r6 < 4294967296 := by rw [HR6.out]; exact rotr_lt _ _ be
             have b11 : r11 < 4294967296 := by rw [HR11.out]; exact rotr_lt _ _ be
             have b25 : r25 < 4294967296 := by rw [HR25.out]; exact rotr_lt _ _ be
             have b2 : r2 < 4294967296 := by rw [HR2.out]; exact rotr_lt _ _ ba
             have b13 : r13 < 4294967296 := by rw [HR13.out]; exact rotr_lt _ _ ba
             have b22 : r22 < 4294967296 := by rw [HR22.out]; exact rotr_lt _ _ ba
             obtain ⟨S1, HS1v⟩ : ∃ r, Hid (r = r6 ^^^ r11 ^^^ r25) := ⟨_, Lib.hid rfl⟩
             obtain ⟨S0, HS0v⟩ : ∃ r, Hid (r = r2 ^^^ r13 ^^^ r22) := ⟨_, Lib.hid rfl⟩
             obtain ⟨CH, HCH⟩ : ∃ r, Hid (r = ch e f g) := ⟨_, Lib.hid rfl⟩
             obtain ⟨MJ, HMJ⟩ : ∃ r, Hid (r = mj a b c) := ⟨_, Lib.hid rfl⟩
             have bS1 : S1 < 4294967296 := by rw [HS1v.out]; exact xor_lt32 (xor_lt32 b6 b11) b25
             have bS0 : S0 < 4294967296 := by rw [HS0v.out]; exact xor_lt32 (xor_lt32 b2 b13) b22
             have bCH : CH < 4294967296 := by rw [HCH.out]; exact ch_lt _ _ _ be
             have bMJ : MJ < 4294967296 := by rw [HMJ.out]; exact mj_lt _ _ _ ba bb
             have f1 : bits .xor .i64 (bits .xor .i64 (r6 : Int) (r11 : Int)) (r25 : Int) = (S1 : Int) := by rw [ref_x3 _ _ _ b6 b11 b25, HS1v.out]
             have f2 : bits .xor .i64 (bits .xor .i64 (r2 : Int) (r13 : Int)) (r22 : Int) = (S0 : Int) := by rw [ref_x3 _ _ _ b2 b13 b22, HS0v.out]
             have f3 : bits .xor .i64 (bits .and .i64 (e : Int) (f : Int)) (bits .and .i64 (4294967295 - (e : Int)) (g : Int)) = (CH : Int) := by rw [ref_ch _ _ _ be bf bg, HCH.out]
             have f4 : bits .xor .i64 (bits .xor .i64 (bits .and .i64 (a : Int) (b : Int)) (bits .and .i64 (a : Int) (c : Int))) (bits .and .i64 (b : Int) (c : Int)) = (MJ : Int) := by rw [ref_mj _ _ _ ba bb bc, HMJ.out]
             have e0 : IntKind.i64.wrap (4294967295 - (e : Int)) = 4294967295 - (e : Int) := wsm _ (by omega) (by omega)
             have e1 : IntKind.i64.wrap ((h : Int) + (S1 : Int)) = (h : Int) + (S1 : Int) := wsm _ (by omega) (by omega)
             have e2 : IntKind.i64.wrap ((h : Int) + (S1 : Int) + (CH : Int)) = (h : Int) + (S1 : Int) + (CH : Int) := wsm _ (by omega) (by omega)
             have e3 : IntKind.i64.wrap ((h : Int) + (S1 : Int) + (CH : Int) + (kt : Int)) = (h : Int) + (S1 : Int) + (CH : Int) + (kt : Int) := wsm _ (by omega) (by omega)
             have e4 : IntKind.i64.wrap ((h : Int) + (S1 : Int) + (CH : Int) + (kt : Int) + (wt : Int)) = (h : Int) + (S1 : Int) + (CH : Int) + (kt : Int) + (wt : Int) := wsm _ (by omega) (by omega)
             have e5 : IntKind.i64.wrap ((S0 : Int) + (MJ : Int)) = (S0 : Int) + (MJ : Int) := wsm _ (by omega) (by omega)
             obtain ⟨T1, HT1v⟩ : ∃ r, Hid (r = roundT1 kt wt e f g h) := ⟨_, Lib.hid rfl⟩
             obtain ⟨T2v, HT2v⟩ : ∃ r, Hid (r = roundT2 a b c) := ⟨_, Lib.hid rfl⟩
             have bT1 : T1 < 4294967296 := by rw [HT1v.out, roundT1]; exact Nat.mod_lt _ (by decide)
             have bT2 : T2v < 4294967296 := by rw [HT2v.out, roundT2]; exact Nat.mod_lt _ (by decide)
             have e6 : IntKind.i64.wrap ((T1 : Int) + (T2v : Int)) = (T1 : Int) + (T2v : Int) := wsm _ (by omega) (by omega)
             have e7 : IntKind.i64.wrap ((d : Int) + (T1 : Int)) = (d : Int) + (T1 : Int) := wsm _ (by omega) (by omega)
             obtain ⟨N0, HN0v⟩ : ∃ r, Hid (r = (T1 + T2v) % 4294967296) := ⟨_, Lib.hid rfl⟩
             obtain ⟨N4, HN4v⟩ : ∃ r, Hid (r = (d + T1) % 4294967296) := ⟨_, Lib.hid rfl⟩
             have T6 := Lib.hid (fun w => turn_6 e be w)
             have T11 := Lib.hid (fun w => turn_11 e be w)
             have T25 := Lib.hid (fun w => turn_25 e be w)
             have T2 := Lib.hid (fun w => turn_2 a ba w)
             have T13 := Lib.hid (fun w => turn_13 a ba w)
             have T22 := Lib.hid (fun w => turn_22 a ba w)
             rw [← HR6.out] at T6
             rw [← HR11.out] at T11
             rw [← HR25.out] at T25
             rw [← HR2.out] at T2
             rw [← HR13.out] at T13
             rw [← HR22.out] at T22
             have HT1 : Hid (∀ w, Calls Try.prog 31 #[.int .i64 ((h : Int) + (S1 : Int) + (CH : Int) + (kt : Int) + (wt : Int))] w (Num w T1)) := Lib.hid (fun w => by
               have := top_any (h + S1 + CH + kt + wt) (by omega) w
               rw [HT1v.out, roundT1, ← HR6.out, ← HR11.out, ← HR25.out, ← HS1v.out, ← HCH.out]
               simpa only [Int.natCast_add] using this)
             have HT2 : Hid (∀ w, Calls Try.prog 31 #[.int .i64 ((S0 : Int) + (MJ : Int))] w (Num w T2v)) := Lib.hid (fun w => by
               have := top_any (S0 + MJ) (by omega) w
               rw [HT2v.out, roundT2, ← HR2.out, ← HR13.out, ← HR22.out, ← HS0v.out, ← HMJ.out]
               simpa only [Int.natCast_add] using this)
             have HN0 : Hid (∀ w, Calls Try.prog 31 #[.int .i64 ((T1 : Int) + (T2v : Int))] w (Num w N0)) := Lib.hid (fun w => by
               have := top_any (T1 + T2v) (by omega) w
               rw [HN0v.out]
               simpa only [Int.natCast_add] using this)
             have HN4 : Hid (∀ w, Calls Try.prog 31 #[.int .i64 ((d : Int) + (T1 : Int))] w (Num w N4)) := Lib.hid (fun w => by
               have := top_any (d + T1) (by omega) w
               rw [HN4v.out]
               simpa only [Int.natCast_add] using this)
             have HNEXT : Hid ([N0, a, b, c, N4, e, f, g] = rounds ws st (t + 1)) := by
               refine Lib.hid ?_
               rw [rounds, HCUR.out, roundS, ← HKT.out, ← HWT.out, ← HT1v.out, ← HT2v.out, ← HN0v.out, ← HN4v.out]
             clear hcur
             obtain ⟨d0, d1, d2, d3, d4, d5, d6, d7, dk, dw⟩ := HC.out wr (Below.refl _ _)
             go_wp2_with fail
             clear d0 d1 d2 d3 d4 d5 d6 d7 dk dw
             refine wp_region_held_drew (S := fun w' => Below wr.heap.size wr w') (by kernel_rfl) ((Below.refl _ _).drew) (fun hHeld => ?_)
             refine held_yes (i := 0) (v := ?_) rfl (by kernel_rfl) (by kernel_rfl) (by kernel_rfl) (fun _ _ _ h => h) (by rfl) (fun w hSw => ?_) hHeld ?_
             rotate_left
             · go_simp; try with_reducible rfl
             simp only [List.setIfInBounds_toArray, List.set_cons_zero, List.set_cons_succ]
             refine held_yes (i := 1) (v := ?_) rfl (by kernel_rfl) (by kernel_rfl) (by kernel_rfl) (fun _ _ _ h => h) (by rfl) (fun w hSw => ?_) hHeld ?_
             rotate_left
             · go_simp; try with_reducible rfl
             simp only [List.setIfInBounds_toArray, List.set_cons_zero, List.set_cons_succ]
             refine held_yes (i := 2) (v := ?_) rfl (by kernel_rfl) (by kernel_rfl) (by kernel_rfl) (fun _ _ _ h => h) (by rfl) (fun w hSw => ?_) hHeld ?_
             rotate_left
             · obtain ⟨d0, d1, d2, d3, d4, d5, d6, d7, dk, dw⟩ := HC.out w hSw; go_simp; try with_reducible rfl
             simp only [List.setIfInBounds_toArray, List.set_cons_zero, List.set_cons_succ]
             refine held_yes (i := 3) (v := ?_) rfl (by kernel_rfl) (by kernel_rfl) (by kernel_rfl) (fun _ _ _ h => h) (by rfl) (fun w hSw => ?_) hHeld ?_
             rotate_left
             · go_simp; try with_reducible rfl
             simp only [List.setIfInBounds_toArray, List.set_cons_zero, List.set_cons_succ]
             refine held_yes (i := 5) (v := ?_) rfl (by kernel_rfl) (by kernel_rfl) (by kernel_rfl) (fun _ _ _ h => h) (by rfl) (fun w hSw => ?_) hHeld ?_
             rotate_left
             · go_simp; try with_reducible rfl
             simp only [List.setIfInBounds_toArray, List.set_cons_zero, List.set_cons_succ]
             refine held_yes (i := 8) (v := ?_) rfl (by kernel_rfl) (by kernel_rfl) (by kernel_rfl) (fun _ _ _ h => h) (by rfl) (fun w hSw => ?_) hHeld ?_
             rotate_left
             · go_simp; try with_reducible rfl
             simp only [List.setIfInBounds_toArray, List.set_cons_zero, List.set_cons_succ]
             refine held_yes (i := 12) (v := ?_) rfl (by kernel_rfl) (by kernel_rfl) (by kernel_rfl) (fun _ _ _ h => h) (by rfl) (fun w hSw => ?_) hHeld ?_
             rotate_left
             · go_simp; try with_reducible rfl
             simp only [List.setIfInBounds_toArray, List.set_cons_zero, List.set_cons_succ]
             refine held_yes (i := 13) (v := ?_) rfl (by kernel_rfl) (by kernel_rfl) (by kernel_rfl) (fun _ _ _ h => h) (by rfl) (fun w hSw => ?_) hHeld ?_
             rotate_left
             · go_simp; try with_reducible rfl
             simp only [List.setIfInBounds_toArray, List.set_cons_zero, List.set_cons_succ]
             refine held_yes (i := 14) (v := ?_) rfl (by kernel_rfl) (by kernel_rfl) (by kernel_rfl) (fun _ _ _ h => h) (by rfl) (fun w hSw => ?_) hHeld ?_
             rotate_left
             · go_simp; try with_reducible rfl
             simp only [List.setIfInBounds_toArray, List.set_cons_zero, List.set_cons_succ]
             refine held_yes (i := 15) (v := ?_) rfl (by kernel_rfl) (by kernel_rfl) (by kernel_rfl) (fun _ _ _ h => h) (by rfl) (fun w hSw => ?_) hHeld ?_
             rotate_left
             · obtain ⟨d0, d1, d2, d3, d4, d5, d6, d7, dk, dw⟩ := HC.out w hSw; go_simp; try with_reducible rfl
             simp only [List.setIfInBounds_toArray, List.set_cons_zero, List.set_cons_succ]
             refine held_yes (i := 16) (v := ?_) rfl (by kernel_rfl) (by kernel_rfl) (by kernel_rfl) (fun _ _ _ h => h) (by rfl) (fun w hSw => ?_) hHeld ?_
             rotate_left
             · go_simp; try with_reducible rfl
             simp only [List.setIfInBounds_toArray, List.set_cons_zero, List.set_cons_succ]
             refine held_yes (i := 17) (v := ?_) rfl (by kernel_rfl) (by kernel_rfl) (by kernel_rfl) (fun _ _ _ h => h) (by rfl) (fun w hSw => ?_) hHeld ?_
             rotate_left
             · go_simp; try with_reducible rfl
             simp only [List.setIfInBounds_toArray, List.set_cons_zero, List.set_cons_succ]
             refine held_yes (i := 18) (v := ?_) rfl (by kernel_rfl) (by kernel_rfl) (by kernel_rfl) (fun _ _ _ h => h) (by rfl) (fun w hSw => ?_) hHeld ?_
             rotate_left
             · go_simp; try with_reducible rfl
             simp only [List.setIfInBounds_toArray, List.set_cons_zero, List.set_cons_succ]
             refine held_yes (i := 19) (v := ?_) rfl (by kernel_rfl) (by kernel_rfl) (by kernel_rfl) (fun _ _ _ h => h) (by rfl) (fun w hSw => ?_) hHeld ?_
             rotate_left
             · go_simp; try with_reducible rfl
             simp only [List.setIfInBounds_toArray, List.set_cons_zero, List.set_cons_succ]
             refine held_yes (i := 20) (v := ?_) rfl (by kernel_rfl) (by kernel_rfl) (by kernel_rfl) (fun _ _ _ h => h) (by rfl) (fun w hSw => ?_) hHeld ?_
             rotate_left
             · go_simp; try with_reducible rfl
             simp only [List.setIfInBounds_toArray, List.set_cons_zero, List.set_cons_succ]
             refine held_yes (i := 21) (v := ?_) rfl (by kernel_rfl) (by kernel_rfl) (by kernel_rfl) (fun _ _ _ h => h) (by rfl) (fun w hSw => ?_) hHeld ?_
             rotate_left
             · obtain ⟨d0, d1, d2, d3, d4, d5, d6, d7, dk, dw⟩ := HC.out w hSw; go_simp; try with_reducible rfl
             simp only [List.setIfInBounds_toArray, List.set_cons_zero, List.set_cons_succ]
             refine held_yes (i := 22) (v := ?_) rfl (by kernel_rfl) (by kernel_rfl) (by kernel_rfl) (fun _ _ _ h => h) (by rfl) (fun w hSw => ?_) hHeld ?_
             rotate_left
             · go_simp; try with_reducible rfl
             simp only [List.setIfInBounds_toArray, List.set_cons_zero, List.set_cons_succ]
             refine held_yes (i := 23) (v := ?_) rfl (by kernel_rfl) (by kernel_rfl) (by kernel_rfl) (fun _ _ _ h => h) (by rfl) (fun w hSw => ?_) hHeld ?_
             rotate_left
             · go_simp; try with_reducible rfl
             simp only [List.setIfInBounds_toArray, List.set_cons_zero, List.set_cons_succ]
             refine held_yes (i := 25) (v := ?_) rfl (by kernel_rfl) (by kernel_rfl) (by kernel_rfl) (fun _ _ _ h => h) (by rfl) (fun w hSw => ?_) hHeld ?_
             rotate_left
             · go_simp; try with_reducible rfl
             simp only [List.setIfInBounds_toArray, List.set_cons_zero, List.set_cons_succ]
             refine held_yes (i := 26) (v := ?_) rfl (by kernel_rfl) (by kernel_rfl) (by kernel_rfl) (fun _ _ _ h => h) (by rfl) (fun w hSw => ?_) hHeld ?_
             rotate_left
             · go_simp; try with_reducible rfl
             simp only [List.setIfInBounds_toArray, List.set_cons_zero, List.set_cons_succ]
             refine held_yes (i := 27) (v := ?_) rfl (by kernel_rfl) (by kernel_rfl) (by kernel_rfl) (fun _ _ _ h => h) (by rfl) (fun w hSw => ?_) hHeld ?_
             rotate_left
             · go_simp; try with_reducible rfl
             simp only [List.setIfInBounds_toArray, List.set_cons_zero, List.set_cons_succ]
             refine held_yes (i := 28) (v := ?_) rfl (by kernel_rfl) (by kernel_rfl) (by kernel_rfl) (fun _ _ _ h => h) (by rfl) (fun w hSw => ?_) hHeld ?_
             rotate_left
             · obtain ⟨d0, d1, d2, d3, d4, d5, d6, d7, dk, dw⟩ := HC.out w hSw; go_simp; try with_reducible rfl
             simp only [List.setIfInBounds_toArray, List.set_cons_zero, List.set_cons_succ]
             refine held_yes (i := 30) (v := ?_) rfl (by kernel_rfl) (by kernel_rfl) (by kernel_rfl) (fun _ _ _ h => h) (by rfl) (fun w hSw => ?_) hHeld ?_
             rotate_left
             · go_simp; try with_reducible rfl
             simp only [List.setIfInBounds_toArray, List.set_cons_zero, List.set_cons_succ]
             refine held_yes (i := 31) (v := ?_) rfl (by kernel_rfl) (by kernel_rfl) (by kernel_rfl) (fun _ _ _ h => h) (by rfl) (fun w hSw => ?_) hHeld ?_
             rotate_left
             · go_simp; try with_reducible rfl
             simp only [List.setIfInBounds_toArray, List.set_cons_zero, List.set_cons_succ]
             refine held_yes (i := 32) (v := ?_) rfl (by kernel_rfl) (by kernel_rfl) (by kernel_rfl) (fun _ _ _ h => h) (by rfl) (fun w hSw => ?_) hHeld ?_
             rotate_left
             · go_simp; try with_reducible rfl
             simp only [List.setIfInBounds_toArray, List.set_cons_zero, List.set_cons_succ]
             refine held_yes (i := 33) (v := ?_) rfl (by kernel_rfl) (by kernel_rfl) (by kernel_rfl) (fun _ _ _ h => h) (by rfl) (fun w hSw => ?_) hHeld ?_
             rotate_left
             · obtain ⟨d0, d1, d2, d3, d4, d5, d6, d7, dk, dw⟩ := HC.out w hSw; go_simp; try with_reducible rfl
             simp only [List.setIfInBounds_toArray, List.set_cons_zero, List.set_cons_succ]
             refine held_only (i := 4) (by kernel_rfl) rfl (fun K hK => ?_)
             rw [if_pos (by rfl)]
             go_simp
             refine (T6.out wr.drew).mono ?_
             rintro e wqa1 ⟨rfl, hb4⟩
             have HBQa1 := Lib.hid hb4
             clear hb4
             go_wp2_with fail
             refine hK.out _ _ ((Below.refl wr.heap.size wr).drew.trans HBQa1.out) (fun _ => ?_)
             clear hK K
             try simp only [Act.put, List.setIfInBounds_toArray, List.set_cons_zero, List.set_cons_succ]
             refine wpAnyH_mono (S' := fun w' => Below wqa1.heap.size wqa1 w') (fun w' h => ((Below.refl wr.heap.size wr).drew.trans HBQa1.out).trans (h.mono (by have := HBQa1.out.size; first | exact this | simpa using this))) ?_
             have hHeld : Below wqa1.heap.size wqa1 wqa1 := Below.refl _ _
             refine held_only (i := 6) (by kernel_rfl) rfl (fun K hK => ?_)
             rw [if_pos (by rfl)]
             go_simp
             refine (T11.out wqa1).mono ?_
             rintro e wqa2 ⟨rfl, hb6⟩
             have HBQa2 := Lib.hid hb6
             clear hb6
             go_wp2_with fail
             refine hK.out _ _ HBQa2.out (fun _ => ?_)
             clear hK K
             try simp only [Act.put, List.setIfInBounds_toArray, List.set_cons_zero, List.set_cons_succ]
             refine wpAnyH_mono (S' := fun w' => Below wqa2.heap.size wqa2 w') (fun w' h => HBQa2.out.trans (h.mono (by have := HBQa2.out.size; first | exact this | simpa using this))) ?_
             have hHeld : Below wqa2.heap.size wqa2 wqa2 := Below.refl _ _
             refine held_yes (i := 7) (v := ?_) rfl (by kernel_rfl) (by kernel_rfl) (by kernel_rfl) (fun _ _ _ h => h) (by rfl) (fun w hSw => ?_) hHeld ?_
             rotate_left
             · go_simp; try with_reducible rfl
             simp only [List.setIfInBounds_toArray, List.set_cons_zero, List.set_cons_succ]
             refine held_only (i := 9) (by kernel_rfl) rfl (fun K hK => ?_)
             rw [if_pos (by rfl)]
             go_simp
             refine (T25.out wqa2).mono ?_
             rintro e wqa3 ⟨rfl, hb9⟩
             have HBQa3 := Lib.hid hb9
             clear hb9
             go_wp2_with fail
             refine hK.out _ _ HBQa3.out (fun _ => ?_)
             clear hK K
             try simp only [Act.put, List.setIfInBounds_toArray, List.set_cons_zero, List.set_cons_succ]
             refine wpAnyH_mono (S' := fun w' => Below wqa3.heap.size wqa3 w') (fun w' h => HBQa3.out.trans (h.mono (by have := HBQa3.out.size; first | exact this | simpa using this))) ?_
             have hHeld : Below wqa3.heap.size wqa3 wqa3 := Below.refl _ _
             refine held_yes (i := 10) (v := ?_) rfl (by kernel_rfl) (by kernel_rfl) (by kernel_rfl) (fun _ _ _ h => h) (by rfl) (fun w hSw => ?_) hHeld ?_
             rotate_left
             · go_simp; try with_reducible rfl
             simp only [List.setIfInBounds_toArray, List.set_cons_zero, List.set_cons_succ]
             refine held_yes (i := 11) (v := ?_) rfl (by kernel_rfl) (by kernel_rfl) (by kernel_rfl) (fun _ _ _ h => h) (by rfl) (fun w hSw => ?_) hHeld ?_
             rotate_left
             · go_simp; try with_reducible rfl
             simp only [List.setIfInBounds_toArray, List.set_cons_zero, List.set_cons_succ]
             refine held_yes (i := 24) (v := ?_) rfl (by kernel_rfl) (by kernel_rfl) (by kernel_rfl) (fun _ _ _ h => h) (by rfl) (fun w hSw => ?_) hHeld ?_
             rotate_left
             · go_simp; try with_reducible rfl
             simp only [List.setIfInBounds_toArray, List.set_cons_zero, List.set_cons_succ]
             refine held_yes (i := 29) (v := ?_) rfl (by kernel_rfl) (by kernel_rfl) (by kernel_rfl) (fun _ _ _ h => h) (by rfl) (fun w hSw => ?_) hHeld ?_
             rotate_left
             · go_simp; try with_reducible rfl
             simp only [List.setIfInBounds_toArray, List.set_cons_zero, List.set_cons_succ]
             refine held_yes (i := 34) (v := ?_) rfl (by kernel_rfl) (by kernel_rfl) (by kernel_rfl) (fun _ _ _ h => h) (by rfl) (fun w hSw => ?_) hHeld ?_
             rotate_left
             · go_simp; try with_reducible rfl
             simp only [List.setIfInBounds_toArray, List.set_cons_zero, List.set_cons_succ]
             refine held_only (i := 35) (by kernel_rfl) rfl (fun K hK => ?_)
             rw [if_pos (by rfl)]
             go_simp
             refine (HT1.out wqa3).mono ?_
             rintro e wqa4 ⟨rfl, hb35⟩
             have HBQa4 := Lib.hid hb35
             clear hb35
             go_wp2_with fail
             refine hK.out _ _ HBQa4.out (fun _ => ?_)
             clear hK K
             try simp only [Act.put, List.setIfInBounds_toArray, List.set_cons_zero, List.set_cons_succ]
             refine wpAnyH_mono (S' := fun w' => Below wqa4.heap.size wqa4 w') (fun w' h => HBQa4.out.trans (h.mono (by have := HBQa4.out.size; first | exact this | simpa using this))) ?_
             have hHeld : Below wqa4.heap.size wqa4 wqa4 := Below.refl _ _
             refine held_yes (i := 36) (v := ?_) rfl (by kernel_rfl) (by kernel_rfl) (by kernel_rfl) (fun _ _ _ h => h) (by rfl) (fun w hSw => ?_) hHeld ?_
             rotate_left
             · go_simp; try with_reducible rfl
             simp only [List.setIfInBounds_toArray, List.set_cons_zero, List.set_cons_succ]
             refine wpAnyH_done (by kernel_rfl) ?_ _
             have HW19 := Lib.hid ((((((Below.refl wr.heap.size wr).drew).trans (HBQa1.out.mono ((Below.refl wr.heap.size wr).drew).size)).trans (HBQa2.out.mono (((Below.refl wr.heap.size wr).drew).trans (HBQa1.out.mono ((Below.refl wr.heap.size wr).drew).size)).size)).trans (HBQa3.out.mono ((((Below.refl wr.heap.size wr).drew).trans (HBQa1.out.mono ((Below.refl wr.heap.size wr).drew).size)).trans (HBQa2.out.mono (((Below.refl wr.heap.size wr).drew).trans (HBQa1.out.mono ((Below.refl wr.heap.size wr).drew).size)).size)).size)).trans (HBQa4.out.mono (((((Below.refl wr.heap.size wr).drew).trans (HBQa1.out.mono ((Below.refl wr.heap.size wr).drew).size)).trans (HBQa2.out.mono (((Below.refl wr.heap.size wr).drew).trans (HBQa1.out.mono ((Below.refl wr.heap.size wr).drew).size)).size)).trans (HBQa3.out.mono ((((Below.refl wr.heap.size wr).drew).trans (HBQa1.out.mono ((Below.refl wr.heap.size wr).drew).size)).trans (HBQa2.out.mono (((Below.refl wr.heap.size wr).drew).trans (HBQa1.out.mono ((Below.refl wr.heap.size wr).drew).size)).size)).size)).size))
             clear hHeld
             go_wp2_with fail
             refine wp_region_held_drew (S := fun w' => Below wqa4.heap.size wqa4 w') (by kernel_rfl) ((Below.refl _ _).drew) (fun hHeld => ?_)
             refine held_yes (i := 0) (v := ?_) rfl (by kernel_rfl) (by kernel_rfl) (by kernel_rfl) (fun _ _ _ h => h) (by rfl) (fun w hSw => ?_) hHeld ?_
             rotate_left
             · go_simp; try with_reducible rfl
             simp only [List.setIfInBounds_toArray, List.set_cons_zero, List.set_cons_succ]
             refine held_yes (i := 2) (v := ?_) rfl (by kernel_rfl) (by kernel_rfl) (by kernel_rfl) (fun _ _ _ h => h) (by rfl) (fun w hSw => ?_) hHeld ?_
             rotate_left
             · go_simp; try with_reducible rfl
             simp only [List.setIfInBounds_toArray, List.set_cons_zero, List.set_cons_succ]
             refine held_yes (i := 5) (v := ?_) rfl (by kernel_rfl) (by kernel_rfl) (by kernel_rfl) (fun _ _ _ h => h) (by rfl) (fun w hSw => ?_) hHeld ?_
             rotate_left
             · go_simp; try with_reducible rfl
             simp only [List.setIfInBounds_toArray, List.set_cons_zero, List.set_cons_succ]
             refine held_yes (i := 8) (v := ?_) rfl (by kernel_rfl) (by kernel_rfl) (by kernel_rfl) (fun _ _ _ h => h) (by rfl) (fun w hSw => ?_) hHeld ?_
             rotate_left
             · go_simp; try with_reducible rfl
             simp only [List.setIfInBounds_toArray, List.set_cons_zero, List.set_cons_succ]
             refine held_yes (i := 9) (v := ?_) rfl (by kernel_rfl) (by kernel_rfl) (by kernel_rfl) (fun _ _ _ h => h) (by rfl) (fun w hSw => ?_) hHeld ?_
             rotate_left
             · go_simp; try with_reducible rfl
             simp only [List.setIfInBounds_toArray, List.set_cons_zero, List.set_cons_succ]
             refine held_yes (i := 10) (v := ?_) rfl (by kernel_rfl) (by kernel_rfl) (by kernel_rfl) (fun _ _ _ h => h) (by rfl) (fun w hSw => ?_) hHeld ?_
             rotate_left
             · go_simp; try with_reducible rfl
             simp only [List.setIfInBounds_toArray, List.set_cons_zero, List.set_cons_succ]
             refine held_yes (i := 11) (v := ?_) rfl (by kernel_rfl) (by kernel_rfl) (by kernel_rfl) (fun _ _ _ h => h) (by rfl) (fun w hSw => ?_) hHeld ?_
             rotate_left
             · obtain ⟨d0, d1, d2, d3, d4, d5, d6, d7, dk, dw⟩ := HC.out w (HW19.out.trans (hSw.mono HW19.out.size)); go_simp; try with_reducible rfl
             simp only [List.setIfInBounds_toArray, List.set_cons_zero, List.set_cons_succ]
             refine held_yes (i := 12) (v := ?_) rfl (by kernel_rfl) (by kernel_rfl) (by kernel_rfl) (fun _ _ _ h => h) (by rfl) (fun w hSw => ?_) hHeld ?_
             rotate_left
             · go_simp; try with_reducible rfl
             simp only [List.setIfInBounds_toArray, List.set_cons_zero, List.set_cons_succ]
             refine held_yes (i := 13) (v := ?_) rfl (by kernel_rfl) (by kernel_rfl) (by kernel_rfl) (fun _ _ _ h => h) (by rfl) (fun w hSw => ?_) hHeld ?_
             rotate_left
             · go_simp; try with_reducible rfl
             simp only [List.setIfInBounds_toArray, List.set_cons_zero, List.set_cons_succ]
             refine held_yes (i := 14) (v := ?_) rfl (by kernel_rfl) (by kernel_rfl) (by kernel_rfl) (fun _ _ _ h => h) (by rfl) (fun w hSw => ?_) hHeld ?_
             rotate_left
             · go_simp; try with_reducible rfl
             simp only [List.setIfInBounds_toArray, List.set_cons_zero, List.set_cons_succ]
             refine held_yes (i := 15) (v := ?_) rfl (by kernel_rfl) (by kernel_rfl) (by kernel_rfl) (fun _ _ _ h => h) (by rfl) (fun w hSw => ?_) hHeld ?_
             rotate_left
             · go_simp; try with_reducible rfl
             simp only [List.setIfInBounds_toArray, List.set_cons_zero, List.set_cons_succ]
             refine held_yes (i := 16) (v := ?_) rfl (by kernel_rfl) (by kernel_rfl) (by kernel_rfl) (fun _ _ _ h => h) (by rfl) (fun w hSw => ?_) hHeld ?_
             rotate_left
             · obtain ⟨d0, d1, d2, d3, d4, d5, d6, d7, dk, dw⟩ := HC.out w (HW19.out.trans (hSw.mono HW19.out.size)); go_simp; try with_reducible rfl
             simp only [List.setIfInBounds_toArray, List.set_cons_zero, List.set_cons_succ]
             refine held_yes (i := 17) (v := ?_) rfl (by kernel_rfl) (by kernel_rfl) (by kernel_rfl) (fun _ _ _ h => h) (by rfl) (fun w hSw => ?_) hHeld ?_
             rotate_left
             · go_simp; try with_reducible rfl
             simp only [List.setIfInBounds_toArray, List.set_cons_zero, List.set_cons_succ]
             refine held_yes (i := 18) (v := ?_) rfl (by kernel_rfl) (by kernel_rfl) (by kernel_rfl) (fun _ _ _ h => h) (by rfl) (fun w hSw => ?_) hHeld ?_
             rotate_left
             · go_simp; try with_reducible rfl
             simp only [List.setIfInBounds_toArray, List.set_cons_zero, List.set_cons_succ]
             refine held_yes (i := 19) (v := ?_) rfl (by kernel_rfl) (by kernel_rfl) (by kernel_rfl) (fun _ _ _ h => h) (by rfl) (fun w hSw => ?_) hHeld ?_
             rotate_left
             · go_simp; try with_reducible rfl
             simp only [List.setIfInBounds_toArray, List.set_cons_zero, List.set_cons_succ]
             refine held_yes (i := 20) (v := ?_) rfl (by kernel_rfl) (by kernel_rfl) (by kernel_rfl) (fun _ _ _ h => h) (by rfl) (fun w hSw => ?_) hHeld ?_
             rotate_left
             · go_simp; try with_reducible rfl
             simp only [List.setIfInBounds_toArray, List.set_cons_zero, List.set_cons_succ]
             refine held_yes (i := 21) (v := ?_) rfl (by kernel_rfl) (by kernel_rfl) (by kernel_rfl) (fun _ _ _ h => h) (by rfl) (fun w hSw => ?_) hHeld ?_
             rotate_left
             · obtain ⟨d0, d1, d2, d3, d4, d5, d6, d7, dk, dw⟩ := HC.out w (HW19.out.trans (hSw.mono HW19.out.size)); go_simp; try with_reducible rfl
             simp only [List.setIfInBounds_toArray, List.set_cons_zero, List.set_cons_succ]
             refine held_yes (i := 22) (v := ?_) rfl (by kernel_rfl) (by kernel_rfl) (by kernel_rfl) (fun _ _ _ h => h) (by rfl) (fun w hSw => ?_) hHeld ?_
             rotate_left
             · go_simp; try with_reducible rfl
             simp only [List.setIfInBounds_toArray, List.set_cons_zero, List.set_cons_succ]
             refine held_yes (i := 23) (v := ?_) rfl (by kernel_rfl) (by kernel_rfl) (by kernel_rfl) (fun _ _ _ h => h) (by rfl) (fun w hSw => ?_) hHeld ?_
             rotate_left
             · go_simp; try with_reducible rfl
             simp only [List.setIfInBounds_toArray, List.set_cons_zero, List.set_cons_succ]
             refine held_yes (i := 24) (v := ?_) rfl (by kernel_rfl) (by kernel_rfl) (by kernel_rfl) (fun _ _ _ h => h) (by rfl) (fun w hSw => ?_) hHeld ?_
             rotate_left
             · obtain ⟨d0, d1, d2, d3, d4, d5, d6, d7, dk, dw⟩ := HC.out w (HW19.out.trans (hSw.mono HW19.out.size)); go_simp; try with_reducible rfl
             simp only [List.setIfInBounds_toArray, List.set_cons_zero, List.set_cons_succ]
             refine held_yes (i := 25) (v := ?_) rfl (by kernel_rfl) (by kernel_rfl) (by kernel_rfl) (fun _ _ _ h => h) (by rfl) (fun w hSw => ?_) hHeld ?_
             rotate_left
             · go_simp; try with_reducible rfl
             simp only [List.setIfInBounds_toArray, List.set_cons_zero, List.set_cons_succ]
             refine held_yes (i := 26) (v := ?_) rfl (by kernel_rfl) (by kernel_rfl) (by kernel_rfl) (fun _ _ _ h => h) (by rfl) (fun w hSw => ?_) hHeld ?_
             rotate_left
             · go_simp; try with_reducible rfl
             simp only [List.setIfInBounds_toArray, List.set_cons_zero, List.set_cons_succ]
             refine held_only (i := 1) (by kernel_rfl) rfl (fun K hK => ?_)
             rw [if_pos (by rfl)]
             go_simp
             refine (T2.out wqa4.drew).mono ?_
             rintro e wqb1 ⟨rfl, hb1⟩
             have HBQb1 := Lib.hid hb1
             clear hb1
             go_wp2_with fail
             refine hK.out _ _ ((Below.refl wqa4.heap.size wqa4).drew.trans HBQb1.out) (fun _ => ?_)
             clear hK K
             try simp only [Act.put, List.setIfInBounds_toArray, List.set_cons_zero, List.set_cons_succ]
             refine wpAnyH_mono (S' := fun w' => Below wqb1.heap.size wqb1 w') (fun w' h => ((Below.refl wqa4.heap.size wqa4).drew.trans HBQb1.out).trans (h.mono (by have := HBQb1.out.size; first | exact this | simpa using this))) ?_
             have hHeld : Below wqb1.heap.size wqb1 wqb1 := Below.refl _ _
             refine held_only (i := 3) (by kernel_rfl) rfl (fun K hK => ?_)
             rw [if_pos (by rfl)]
             go_simp
             refine (T13.out wqb1).mono ?_
             rintro e wqb2 ⟨rfl, hb3⟩
             have HBQb2 := Lib.hid hb3
             clear hb3
             go_wp2_with fail
             refine hK.out _ _ HBQb2.out (fun _ => ?_)
             clear hK K
             try simp only [Act.put, List.setIfInBounds_toArray, List.set_cons_zero, List.set_cons_succ]
             refine wpAnyH_mono (S' := fun w' => Below wqb2.heap.size wqb2 w') (fun w' h => HBQb2.out.trans (h.mono (by have := HBQb2.out.size; first | exact this | simpa using this))) ?_
             have hHeld : Below wqb2.heap.size wqb2 wqb2 := Below.refl _ _
             refine held_yes (i := 4) (v := ?_) rfl (by kernel_rfl) (by kernel_rfl) (by kernel_rfl) (fun _ _ _ h => h) (by rfl) (fun w hSw => ?_) hHeld ?_
             rotate_left
             · go_simp; try with_reducible rfl
             simp only [List.setIfInBounds_toArray, List.set_cons_zero, List.set_cons_succ]
             refine held_only (i := 6) (by kernel_rfl) rfl (fun K hK => ?_)
             rw [if_pos (by rfl)]
             go_simp
             refine (T22.out wqb2).mono ?_
             rintro e wqb3 ⟨rfl, hb6⟩
             have HBQb3 := Lib.hid hb6
             clear hb6
             go_wp2_with fail
             refine hK.out _ _ HBQb3.out (fun _ => ?_)
             clear hK K
             try simp only [Act.put, List.setIfInBounds_toArray, List.set_cons_zero, List.set_cons_succ]
             refine wpAnyH_mono (S' := fun w' => Below wqb3.heap.size wqb3 w') (fun w' h => HBQb3.out.trans (h.mono (by have := HBQb3.out.size; first | exact this | simpa using this))) ?_
             have hHeld : Below wqb3.heap.size wqb3 wqb3 := Below.refl _ _
             refine held_yes (i := 7) (v := ?_) rfl (by kernel_rfl) (by kernel_rfl) (by kernel_rfl) (fun _ _ _ h => h) (by rfl) (fun w hSw => ?_) hHeld ?_
             rotate_left
             · go_simp; try with_reducible rfl
             simp only [List.setIfInBounds_toArray, List.set_cons_zero, List.set_cons_succ]
             refine held_yes (i := 27) (v := ?_) rfl (by kernel_rfl) (by kernel_rfl) (by kernel_rfl) (fun _ _ _ h => h) (by rfl) (fun w hSw => ?_) hHeld ?_
             rotate_left
             · go_simp; try with_reducible rfl
             simp only [List.setIfInBounds_toArray, List.set_cons_zero, List.set_cons_succ]
             refine held_only (i := 28) (by kernel_rfl) rfl (fun K hK => ?_)
             rw [if_pos (by rfl)]
             go_simp
             refine (HT2.out wqb3).mono ?_
             rintro e wqb4 ⟨rfl, hb28⟩
             have HBQb4 := Lib.hid hb28
             clear hb28
             go_wp2_with fail
             refine hK.out _ _ HBQb4.out (fun _ => ?_)
             clear hK K
             try simp only [Act.put, List.setIfInBounds_toArray, List.set_cons_zero, List.set_cons_succ]
             refine wpAnyH_mono (S' := fun w' => Below wqb4.heap.size wqb4 w') (fun w' h => HBQb4.out.trans (h.mono (by have := HBQb4.out.size; first | exact this | simpa using this))) ?_
             have hHeld : Below wqb4.heap.size wqb4 wqb4 := Below.refl _ _
             refine held_yes (i := 29) (v := ?_) rfl (by kernel_rfl) (by kernel_rfl) (by kernel_rfl) (fun _ _ _ h => h) (by rfl) (fun w hSw => ?_) hHeld ?_
             rotate_left
             · go_simp; try with_reducible rfl
             simp only [List.setIfInBounds_toArray, List.set_cons_zero, List.set_cons_succ]
             refine wpAnyH_done (by kernel_rfl) ?_ _
             have HW20 := Lib.hid (HW19.out.trans (((((((Below.refl wqa4.heap.size wqa4).drew).trans (HBQb1.out.mono ((Below.refl wqa4.heap.size wqa4).drew).size)).trans (HBQb2.out.mono (((Below.refl wqa4.heap.size wqa4).drew).trans (HBQb1.out.mono ((Below.refl wqa4.heap.size wqa4).drew).size)).size)).trans (HBQb3.out.mono ((((Below.refl wqa4.heap.size wqa4).drew).trans (HBQb1.out.mono ((Below.refl wqa4.heap.size wqa4).drew).size)).trans (HBQb2.out.mono (((Below.refl wqa4.heap.size wqa4).drew).trans (HBQb1.out.mono ((Below.refl wqa4.heap.size wqa4).drew).size)).size)).size)).trans (HBQb4.out.mono (((((Below.refl wqa4.heap.size wqa4).drew).trans (HBQb1.out.mono ((Below.refl wqa4.heap.size wqa4).drew).size)).trans (HBQb2.out.mono (((Below.refl wqa4.heap.size wqa4).drew).trans (HBQb1.out.mono ((Below.refl wqa4.heap.size wqa4).drew).size)).size)).trans (HBQb3.out.mono ((((Below.refl wqa4.heap.size wqa4).drew).trans (HBQb1.out.mono ((Below.refl wqa4.heap.size wqa4).drew).size)).trans (HBQb2.out.mono (((Below.refl wqa4.heap.size wqa4).drew).trans (HBQb1.out.mono ((Below.refl wqa4.heap.size wqa4).drew).size)).size)).size)).size)).mono HW19.out.size))
             clear hHeld
             go_wp2_with fail
             refine wp_region_held_drew (S := fun w' => Below wqb4.heap.size wqb4 w') (by kernel_rfl) ((Below.refl _ _).drew) (fun hHeld => ?_)
             refine held_yes (i := 0) (v := ?_) rfl (by kernel_rfl) (by kernel_rfl) (by kernel_rfl) (fun _ _ _ h => h) (by rfl) (fun w hSw => ?_) hHeld ?_
             rotate_left
             · go_simp; try with_reducible rfl
             simp only [List.setIfInBounds_toArray, List.set_cons_zero, List.set_cons_succ]
             refine held_yes (i := 1) (v := ?_) rfl (by kernel_rfl) (by kernel_rfl) (by kernel_rfl) (fun _ _ _ h => h) (by rfl) (fun w hSw => ?_) hHeld ?_
             rotate_left
             · go_simp; try with_reducible rfl
             simp only [List.setIfInBounds_toArray, List.set_cons_zero, List.set_cons_succ]
             refine held_yes (i := 2) (v := ?_) rfl (by kernel_rfl) (by kernel_rfl) (by kernel_rfl) (fun _ _ _ h => h) (by rfl) (fun w hSw => ?_) hHeld ?_
             rotate_left
             · go_simp; try with_reducible rfl
             simp only [List.setIfInBounds_toArray, List.set_cons_zero, List.set_cons_succ]
             refine held_yes (i := 4) (v := ?_) rfl (by kernel_rfl) (by kernel_rfl) (by kernel_rfl) (fun _ _ _ h => h) (by rfl) (fun w hSw => ?_) hHeld ?_
             rotate_left
             · go_simp; try with_reducible rfl
             simp only [List.setIfInBounds_toArray, List.set_cons_zero, List.set_cons_succ]
             refine held_yes (i := 5) (v := ?_) rfl (by kernel_rfl) (by kernel_rfl) (by kernel_rfl) (fun _ _ _ h => h) (by rfl) (fun w hSw => ?_) hHeld ?_
             rotate_left
             · go_simp; try with_reducible rfl
             simp only [List.setIfInBounds_toArray, List.set_cons_zero, List.set_cons_succ]
             refine held_yes (i := 6) (v := ?_) rfl (by kernel_rfl) (by kernel_rfl) (by kernel_rfl) (fun _ _ _ h => h) (by rfl) (fun w hSw => ?_) hHeld ?_
             rotate_left
             · obtain ⟨d0, d1, d2, d3, d4, d5, d6, d7, dk, dw⟩ := HC.out w (HW20.out.trans (hSw.mono HW20.out.size)); go_simp; try with_reducible rfl
             simp only [List.setIfInBounds_toArray, List.set_cons_zero, List.set_cons_succ]
             refine held_yes (i := 7) (v := ?_) rfl (by kernel_rfl) (by kernel_rfl) (by kernel_rfl) (fun _ _ _ h => h) (by rfl) (fun w hSw => ?_) hHeld ?_
             rotate_left
             · go_simp; try with_reducible rfl
             simp only [List.setIfInBounds_toArray, List.set_cons_zero, List.set_cons_succ]
             refine held_yes (i := 8) (v := ?_) rfl (by kernel_rfl) (by kernel_rfl) (by kernel_rfl) (fun _ _ _ h => h) (by rfl) (fun w hSw => ?_) hHeld ?_
             rotate_left
             · go_simp; try with_reducible rfl
             simp only [List.setIfInBounds_toArray, List.set_cons_zero, List.set_cons_succ]
             refine held_yes (i := 9) (v := ?_) rfl (by kernel_rfl) (by kernel_rfl) (by kernel_rfl) (fun _ _ _ h => h) (by rfl) (fun w hSw => ?_) hHeld ?_
             rotate_left
             · obtain ⟨d0, d1, d2, d3, d4, d5, d6, d7, dk, dw⟩ := HC.out w (HW20.out.trans (hSw.mono HW20.out.size)); go_simp; try with_reducible rfl
             simp only [List.setIfInBounds_toArray, List.set_cons_zero, List.set_cons_succ]
             refine held_yes (i := 10) (v := ?_) rfl (by kernel_rfl) (by kernel_rfl) (by kernel_rfl) (fun _ _ _ h => h) (by rfl) (fun w hSw => ?_) hHeld ?_
             rotate_left
             · go_simp; try with_reducible rfl
             simp only [List.setIfInBounds_toArray, List.set_cons_zero, List.set_cons_succ]
             refine held_yes (i := 11) (v := ?_) rfl (by kernel_rfl) (by kernel_rfl) (by kernel_rfl) (fun _ _ _ h => h) (by rfl) (fun w hSw => ?_) hHeld ?_
             rotate_left
             · go_simp; try with_reducible rfl
             simp only [List.setIfInBounds_toArray, List.set_cons_zero, List.set_cons_succ]
             refine held_yes (i := 12) (v := ?_) rfl (by kernel_rfl) (by kernel_rfl) (by kernel_rfl) (fun _ _ _ h => h) (by rfl) (fun w hSw => ?_) hHeld ?_
             rotate_left
             · obtain ⟨d0, d1, d2, d3, d4, d5, d6, d7, dk, dw⟩ := HC.out w (HW20.out.trans (hSw.mono HW20.out.size)); go_simp; try with_reducible rfl
             simp only [List.setIfInBounds_toArray, List.set_cons_zero, List.set_cons_succ]
             refine held_yes (i := 13) (v := ?_) rfl (by kernel_rfl) (by kernel_rfl) (by kernel_rfl) (fun _ _ _ h => h) (by rfl) (fun w hSw => ?_) hHeld ?_
             rotate_left
             · go_simp; try with_reducible rfl
             simp only [List.setIfInBounds_toArray, List.set_cons_zero, List.set_cons_succ]
             refine held_yes (i := 14) (v := ?_) rfl (by kernel_rfl) (by kernel_rfl) (by kernel_rfl) (fun _ _ _ h => h) (by rfl) (fun w hSw => ?_) hHeld ?_
             rotate_left
             · go_simp; try with_reducible rfl
             simp only [List.setIfInBounds_toArray, List.set_cons_zero, List.set_cons_succ]
             refine held_yes (i := 15) (v := ?_) rfl (by kernel_rfl) (by kernel_rfl) (by kernel_rfl) (fun _ _ _ h => h) (by rfl) (fun w hSw => ?_) hHeld ?_
             rotate_left
             · obtain ⟨d0, d1, d2, d3, d4, d5, d6, d7, dk, dw⟩ := HC.out w (HW20.out.trans (hSw.mono HW20.out.size)); go_simp; try with_reducible rfl
             simp only [List.setIfInBounds_toArray, List.set_cons_zero, List.set_cons_succ]
             refine held_yes (i := 16) (v := ?_) rfl (by kernel_rfl) (by kernel_rfl) (by kernel_rfl) (fun _ _ _ h => h) (by rfl) (fun w hSw => ?_) hHeld ?_
             rotate_left
             · go_simp; try with_reducible rfl
             simp only [List.setIfInBounds_toArray, List.set_cons_zero, List.set_cons_succ]
             refine held_yes (i := 17) (v := ?_) rfl (by kernel_rfl) (by kernel_rfl) (by kernel_rfl) (fun _ _ _ h => h) (by rfl) (fun w hSw => ?_) hHeld ?_
             rotate_left
             · go_simp; try with_reducible rfl
             simp only [List.setIfInBounds_toArray, List.set_cons_zero, List.set_cons_succ]
             refine held_yes (i := 19) (v := ?_) rfl (by kernel_rfl) (by kernel_rfl) (by kernel_rfl) (fun _ _ _ h => h) (by rfl) (fun w hSw => ?_) hHeld ?_
             rotate_left
             · go_simp; try with_reducible rfl
             simp only [List.setIfInBounds_toArray, List.set_cons_zero, List.set_cons_succ]
             refine held_yes (i := 20) (v := ?_) rfl (by kernel_rfl) (by kernel_rfl) (by kernel_rfl) (fun _ _ _ h => h) (by rfl) (fun w hSw => ?_) hHeld ?_
             rotate_left
             · go_simp; try with_reducible rfl
             simp only [List.setIfInBounds_toArray, List.set_cons_zero, List.set_cons_succ]
             refine held_yes (i := 21) (v := ?_) rfl (by kernel_rfl) (by kernel_rfl) (by kernel_rfl) (fun _ _ _ h => h) (by rfl) (fun w hSw => ?_) hHeld ?_
             rotate_left
             · obtain ⟨d0, d1, d2, d3, d4, d5, d6, d7, dk, dw⟩ := HC.out w (HW20.out.trans (hSw.mono HW20.out.size)); go_simp; try with_reducible rfl
             simp only [List.setIfInBounds_toArray, List.set_cons_zero, List.set_cons_succ]
             refine held_yes (i := 22) (v := ?_) rfl (by kernel_rfl) (by kernel_rfl) (by kernel_rfl) (fun _ _ _ h => h) (by rfl) (fun w hSw => ?_) hHeld ?_
             rotate_left
             · go_simp; try with_reducible rfl
             simp only [List.setIfInBounds_toArray, List.set_cons_zero, List.set_cons_succ]
             refine held_yes (i := 23) (v := ?_) rfl (by kernel_rfl) (by kernel_rfl) (by kernel_rfl) (fun _ _ _ h => h) (by rfl) (fun w hSw => ?_) hHeld ?_
             rotate_left
             · go_simp; try with_reducible rfl
             simp only [List.setIfInBounds_toArray, List.set_cons_zero, List.set_cons_succ]
             refine held_yes (i := 24) (v := ?_) rfl (by kernel_rfl) (by kernel_rfl) (by kernel_rfl) (fun _ _ _ h => h) (by rfl) (fun w hSw => ?_) hHeld ?_
             rotate_left
             · obtain ⟨d0, d1, d2, d3, d4, d5, d6, d7, dk, dw⟩ := HC.out w (HW20.out.trans (hSw.mono HW20.out.size)); go_simp; try with_reducible rfl
             simp only [List.setIfInBounds_toArray, List.set_cons_zero, List.set_cons_succ]
             refine held_yes (i := 25) (v := ?_) rfl (by kernel_rfl) (by kernel_rfl) (by kernel_rfl) (fun _ _ _ h => h) (by rfl) (fun w hSw => ?_) hHeld ?_
             rotate_left
             · go_simp; try with_reducible rfl
             simp only [List.setIfInBounds_toArray, List.set_cons_zero, List.set_cons_succ]
             refine held_yes (i := 26) (v := ?_) rfl (by kernel_rfl) (by kernel_rfl) (by kernel_rfl) (fun _ _ _ h => h) (by rfl) (fun w hSw => ?_) hHeld ?_
             rotate_left
             · go_simp; try with_reducible rfl
             simp only [List.setIfInBounds_toArray, List.set_cons_zero, List.set_cons_succ]
             refine held_yes (i := 27) (v := ?_) rfl (by kernel_rfl) (by kernel_rfl) (by kernel_rfl) (fun _ _ _ h => h) (by rfl) (fun w hSw => ?_) hHeld ?_
             rotate_left
             · obtain ⟨d0, d1, d2, d3, d4, d5, d6, d7, dk, dw⟩ := HC.out w (HW20.out.trans (hSw.mono HW20.out.size)); go_simp; try with_reducible rfl
             simp only [List.setIfInBounds_toArray, List.set_cons_zero, List.set_cons_succ]
             refine held_only (i := 3) (by kernel_rfl) rfl (fun K hK => ?_)
             rw [if_pos (by rfl)]
             go_simp
             refine (HN0.out wqb4.drew).mono ?_
             rintro e wqc1 ⟨rfl, hb3⟩
             have HBQc1 := Lib.hid hb3
             clear hb3
             go_wp2_with fail
             refine hK.out _ _ ((Below.refl wqb4.heap.size wqb4).drew.trans HBQc1.out) (fun _ => ?_)
             clear hK K
             try simp only [Act.put, List.setIfInBounds_toArray, List.set_cons_zero, List.set_cons_succ]
             refine wpAnyH_mono (S' := fun w' => Below wqc1.heap.size wqc1 w') (fun w' h => ((Below.refl wqb4.heap.size wqb4).drew.trans HBQc1.out).trans (h.mono (by have := HBQc1.out.size; first | exact this | simpa using this))) ?_
             have hHeld : Below wqc1.heap.size wqc1 wqc1 := Below.refl _ _
             refine held_only (i := 18) (by kernel_rfl) rfl (fun K hK => ?_)
             rw [if_pos (by rfl)]
             go_simp
             refine (HN4.out wqc1).mono ?_
             rintro e wqc2 ⟨rfl, hb18⟩
             have HBQc2 := Lib.hid hb18
             clear hb18
             go_wp2_with fail
             refine hK.out _ _ HBQc2.out (fun _ => ?_)
             clear hK K
             try simp only [Act.put, List.setIfInBounds_toArray, List.set_cons_zero, List.set_cons_succ]
             refine wpAnyH_mono (S' := fun w' => Below wqc2.heap.size wqc2 w') (fun w' h => HBQc2.out.trans (h.mono (by have := HBQc2.out.size; first | exact this | simpa using this))) ?_
             have hHeld : Below wqc2.heap.size wqc2 wqc2 := Below.refl _ _
             refine held_only (i := 28) (by kernel_rfl) rfl (fun K hK => ?_)
             rw [if_pos (by rfl)]
             go_wp2_with fail
             refine world_at (F := fun wx => Below wqc2.heap.size wqc2 wx ∧ Seg wx wqc2.heap.size 1 (some ⟨wqc2.heap.size, 0, none⟩) 8 8 (ivs [N0, a, b, c, N4, e, f, g])) ⟨(Below.refl _ _).alloc (Nat.le_refl _) _, seg_ints wqc2 #[.int .i64 (N0 : Int), .int .i64 (a : Int), .int .i64 (b : Int), .int .i64 (c : Int), .int .i64 (N4 : Int), .int .i64 (e : Int), .int .i64 (f : Int), .int .i64 (g : Int)] [N0, a, b, c, N4, e, f, g] rfl rfl⟩ (fun wqc3 HF => ?_)
             have HBQc3 := Lib.hid HF.out.1
             have HSL := Lib.hid HF.out.2
             clear HF
             refine hK.out _ _ HBQc3.out (fun _ => ?_)
             clear hK K
             try simp only [Act.put, List.setIfInBounds_toArray, List.set_cons_zero, List.set_cons_succ]
             refine wpAnyH_mono (S' := fun w' => Below wqc3.heap.size wqc3 w') (fun w' h => HBQc3.out.trans (h.mono (by have := HBQc3.out.size; first | exact this | simpa using this))) ?_
             have hHeld : Below wqc3.heap.size wqc3 wqc3 := Below.refl _ _
             refine held_yes (i := 29) (v := ?_) rfl (by kernel_rfl) (by kernel_rfl) (by kernel_rfl) (fun _ _ _ h => h) (by rfl) (fun w hSw => ?_) hHeld ?_
             rotate_left
             · go_simp; try with_reducible rfl
             simp only [List.setIfInBounds_toArray, List.set_cons_zero, List.set_cons_succ]
             refine wpAnyH_done (by kernel_rfl) ?_ _
             have HW21 := Lib.hid (HW20.out.trans ((((((Below.refl wqb4.heap.size wqb4).drew).trans (HBQc1.out.mono ((Below.refl wqb4.heap.size wqb4).drew).size)).trans (HBQc2.out.mono (((Below.refl wqb4.heap.size wqb4).drew).trans (HBQc1.out.mono ((Below.refl wqb4.heap.size wqb4).drew).size)).size)).trans (HBQc3.out.mono ((((Below.refl wqb4.heap.size wqb4).drew).trans (HBQc1.out.mono ((Below.refl wqb4.heap.size wqb4).drew).size)).trans (HBQc2.out.mono (((Below.refl wqb4.heap.size wqb4).drew).trans (HBQc1.out.mono ((Below.refl wqb4.heap.size wqb4).drew).size)).size)).size)).mono HW20.out.size))
             clear hHeld
             go_wp2_with fail
             case roundEnd =>
               refine ⟨⟨t + 1, _, _, by omega, rfl, by push_cast; rfl, ?_, HBL.out.trans (HW21.out.mono HBL.out.size)⟩, by simp only [intOf]; omega⟩
               rw [← HNEXT.out]
               exact HSL.out.mono (by have h0 := HBL.out.size; have h1 := HW20.out.size; have h2 : wqb4.heap.size ≤ wqc1.heap.size := HBQc1.out.size; have h3 : wqc1.heap.size ≤ wqc2.heap.size := HBQc2.out.size; omega)
           · obtain rfl : t = 64 := by omega
             obtain ⟨rs, HRS⟩ : ∃ l, Hid (l = rounds ws st 64) := ⟨_, Lib.hid rfl⟩
             have HRSOK : Hid (rs.length = 8 ∧ ∀ y ∈ rs, y < 4294967296) := by rw [HRS.out]; exact Lib.hid (rounds_ok ws HSOK.out 64)
             rw [← HRS.out] at HSS HNX
             obtain ⟨gs, os, rfl, _⟩ := HSS.out.rd.at_ (by omega)
             have hgs := HSS.out.base_le ⟨gs, os, none⟩ rfl
             have HGS : Hid (¬ gs = gh) := Lib.hid (by simp at hgs; omega)
             have HRJ0 : Hid (RAt w w7 gh oh hcp (addL st rs 0) wr) := by rw [addL_zero HSOK.out.1 rs]; exact Lib.hid (HRA9.out.drop_ HBL.out)
             obtain ⟨wl, HWL⟩ : ∃ x, Hid (x = wr) := ⟨_, Lib.hid rfl⟩
             have HTJ0 : Hid (Touch (fun i => i = gh) wl wr) := by rw [HWL.out]; exact Lib.hid (Touch.refl _ _)
             have HSL : Hid (Rd wl 1 (some ⟨gs, os, none⟩) 8 cs (ivs rs)) := by rw [HWL.out]; exact Lib.hid HSS.out.rd
             clear HSS HBL HRA9 hgs HWL
             go_wp2_with fail
             simp only [show (((64 : Nat)) : Int) = 64 from rfl]
             go_loopw [15] (fun s15 wx => ∃ kk : Nat, kk ≤ 8 ∧ s15 = .int .i64 (kk : Int) ∧ RAt w w7 gh oh hcp (addL st rs kk) wx ∧ Touch (fun i => i = gh) wl wx) (fun s15 _ => 8 - (intOf s15).toNat)
             case atStart => exact ⟨0, by omega, rfl, HRJ0.out, HTJ0.out⟩
             case round =>
              obtain ⟨kk, hkk, rfl, hrj, htj⟩ := hrel
              have HRJ := Lib.hid hrj
              have HTJ := Lib.hid htj
              clear hrj htj HRJ0 HTJ0
              by_cases hlt4 : kk < 8
              · obtain ⟨y, HY⟩ : ∃ x, Hid (x = st.getD kk 0) := ⟨_, Lib.hid rfl⟩
                obtain ⟨z, HZz⟩ : ∃ x, Hid (x = rs.getD kk 0) := ⟨_, Lib.hid rfl⟩
                obtain ⟨X, HX⟩ : ∃ x, Hid (x = (y + z) % 4294967296) := ⟨_, Lib.hid rfl⟩
                have by' : y < 4294967296 := by
                  rw [HY.out, List.getD_eq_getElem?_getD, List.getElem?_eq_getElem (show kk < st.length by rw [HSOK.out.1]; exact hlt4)]; exact HSOK.out.2 _ (List.getElem_mem _)
                have bz : z < 4294967296 := by
                  rw [HZz.out, List.getD_eq_getElem?_getD, List.getElem?_eq_getElem (show kk < rs.length by rw [HRSOK.out.1]; exact hlt4)]; exact HRSOK.out.2 _ (List.getElem_mem _)
                have HSET : Hid ((addL st rs kk).set kk X = addL st rs (kk + 1)) := by rw [HX.out, HY.out, HZz.out, addL_set' _ _ _ hlt4]; exact Lib.hid rfl
                have ey : IntKind.i64.wrap ((y : Int) + (z : Int)) = (y : Int) + (z : Int) := wsm _ (by omega) (by omega)
                have HTOP : Hid (∀ w, Calls Try.prog 31 #[.int .i64 ((y : Int) + (z : Int))] w (Num w X)) := Lib.hid (fun w => by
                  have := top_any (y + z) (by omega) w
                  rw [HX.out]
                  simpa only [Int.natCast_add] using this)
                obtain ⟨c1', _⟩ := (HRJ.out.drop_ ((Below.refl _ _).drew)).seg.cell (j := kk) (by rw [addL_length]; omega)
                rw [addL_getD _ _ _ hlt4, ← HY.out] at c1'
                have c2' := rdn_get (HSL.out.touch HTJ.out (fun a ha e => by cases ha; exact HGS.out e)) ((Below.refl wr.heap.size wr).drew) (j := kk) (by rw [HRSOK.out.1]; exact hlt4)
                rw [← HZz.out] at c2'
                go_wp2_with fail
                refine wp_region_held_drew (S := fun _ => True) (by kernel_rfl) trivial (fun hHeld => ?_)
                refine held_yes (i := 0) (v := ?_) rfl (by kernel_rfl) (by kernel_rfl) (by kernel_rfl) (fun _ _ _ h => h) (by rfl) (fun w hSw => ?_) hHeld ?_
                rotate_left
                · go_simp; try with_reducible rfl
                simp only [List.setIfInBounds_toArray, List.set_cons_zero, List.set_cons_succ]
                refine held_yes (i := 1) (v := ?_) rfl (by kernel_rfl) (by kernel_rfl) (by kernel_rfl) (fun _ _ _ h => h) (by rfl) (fun w hSw => ?_) hHeld ?_
                rotate_left
                · go_simp; try with_reducible rfl
                simp only [List.setIfInBounds_toArray, List.set_cons_zero, List.set_cons_succ]
                refine held_yes (i := 2) (v := ?_) rfl (by kernel_rfl) (by kernel_rfl) (by kernel_rfl) (fun _ _ _ h => h) (by rfl) (fun w hSw => ?_) hHeld ?_
                rotate_left
                · go_simp; try with_reducible rfl
                simp only [List.setIfInBounds_toArray, List.set_cons_zero, List.set_cons_succ]
                refine held_yes (i := 3) (v := ?_) rfl (by kernel_rfl) (by kernel_rfl) (by kernel_rfl) (fun _ _ _ h => h) (by rfl) (fun w hSw => ?_) hHeld ?_
                rotate_left
                · go_simp; try with_reducible rfl
                simp only [List.setIfInBounds_toArray, List.set_cons_zero, List.set_cons_succ]
                refine held_yes (i := 4) (v := ?_) rfl (by kernel_rfl) (by kernel_rfl) (by kernel_rfl) (fun _ _ _ h => h) (by rfl) (fun w hSw => ?_) hHeld ?_
                rotate_left
                · go_simp; try with_reducible rfl
                simp only [List.setIfInBounds_toArray, List.set_cons_zero, List.set_cons_succ]
                refine held_yes (i := 6) (v := ?_) rfl (by kernel_rfl) (by kernel_rfl) (by kernel_rfl) (fun _ _ _ h => h) (by rfl) (fun w hSw => ?_) hHeld ?_
                rotate_left
                · go_simp; try with_reducible rfl
                simp only [List.setIfInBounds_toArray, List.set_cons_zero, List.set_cons_succ]
                refine held_yes (i := 7) (v := ?_) rfl (by kernel_rfl) (by kernel_rfl) (by kernel_rfl) (fun _ _ _ h => h) (by rfl) (fun w hSw => ?_) hHeld ?_
                rotate_left
                · go_simp; try with_reducible rfl
                simp only [List.setIfInBounds_toArray, List.set_cons_zero, List.set_cons_succ]
                refine held_yes (i := 8) (v := ?_) rfl (by kernel_rfl) (by kernel_rfl) (by kernel_rfl) (fun _ _ _ h => h) (by rfl) (fun w hSw => ?_) hHeld ?_
                rotate_left
                · go_simp; try with_reducible rfl
                simp only [List.setIfInBounds_toArray, List.set_cons_zero, List.set_cons_succ]
                refine wpAnyH_ready (rs := [5, 9]) (by kernel_rfl) (by simp) (AllReadyH.cons rfl (fun K hK => ?_) (AllReadyH.cons rfl (fun K hK => ?_) AllReadyH.nil))
                · skip
                  rw [if_pos (by rfl)]
                  go_wp2_with fail
                  refine hK.out _ _ trivial (fun hHeld => ?_)
                  clear hK K
                  try simp only [Act.put, List.setIfInBounds_toArray, List.set_cons_zero, List.set_cons_succ]
                  refine held_only (i := 9) (by kernel_rfl) rfl (fun K hK => ?_)
                  rw [if_pos (by rfl)]
                  go_wp2_with fail
                  refine hK.out _ _ trivial (fun hHeld => ?_)
                  clear hK K
                  try simp only [Act.put, List.setIfInBounds_toArray, List.set_cons_zero, List.set_cons_succ]
                  refine held_yes (i := 10) (v := ?_) rfl (by kernel_rfl) (by kernel_rfl) (by kernel_rfl) (fun _ _ _ h => h) (by rfl) (fun w hSw => ?_) hHeld ?_
                  rotate_left
                  · go_simp; try with_reducible rfl
                  simp only [List.setIfInBounds_toArray, List.set_cons_zero, List.set_cons_succ]
                  refine held_only (i := 11) (by kernel_rfl) rfl (fun K hK => ?_)
                  rw [if_pos (by rfl)]
                  go_simp
                  refine (HTOP.out wr.drew).mono ?_
                  rintro e wqd3 ⟨rfl, hb1⟩
                  have HRD := Lib.hid ((HRJ.out.drop_ ((Below.refl _ _).drew)).drop_ hb1)
                  obtain ⟨cst, fst⟩ := HRD.out.seg.cell (j := kk) (by rw [addL_length]; omega)
                  have HPT := Lib.hid (HRD.out.put (j := kk) hlt4 X)
                  have HTT := Lib.hid ((touch_of_below (touch_of_below HTJ.out ((Below.refl wr.heap.size wr).drew)) hb1).trans (Touch.setCell wqd3 ⟨gh, oh + kk, none⟩ (.int .i64 (X : Int)) (S := fun i => i = gh) rfl) (fun _ _ e => e))
                  rw [HSET.out] at HPT
                  clear hb1 HRD
                  go_wp2_with fail
                  refine hK.out _ _ trivial (fun hHeld => ?_)
                  clear hK K
                  try simp only [Act.put, List.setIfInBounds_toArray, List.set_cons_zero, List.set_cons_succ]
                  refine held_yes (i := 12) (v := ?_) rfl (by kernel_rfl) (by kernel_rfl) (by kernel_rfl) (fun _ _ _ h => h) (by rfl) (fun w hSw => ?_) hHeld ?_
                  rotate_left
                  · go_simp; try with_reducible rfl
                  simp only [List.setIfInBounds_toArray, List.set_cons_zero, List.set_cons_succ]
                  refine held_only (i := 13) (by kernel_rfl) rfl (fun K hK => ?_)
                  rw [if_pos (by rfl)]
                  go_wp2_with fail
                  refine hK.out _ _ trivial (fun hHeld => ?_)
                  clear hK K
                  try simp only [Act.put, List.setIfInBounds_toArray, List.set_cons_zero, List.set_cons_succ]
                  refine wpAnyH_done (by kernel_rfl) ?_ _
                  go_wp2_with fail
                  case roundEnd =>
                    exact ⟨⟨kk + 1, by omega, by push_cast; rfl, HPT.out, HTT.out⟩, by simp only [intOf]; omega⟩
                · skip
                  rw [if_pos (by rfl)]
                  go_wp2_with fail
                  refine hK.out _ _ trivial (fun hHeld => ?_)
                  clear hK K
                  try simp only [Act.put, List.setIfInBounds_toArray, List.set_cons_zero, List.set_cons_succ]
                  refine held_only (i := 5) (by kernel_rfl) rfl (fun K hK => ?_)
                  rw [if_pos (by rfl)]
                  go_wp2_with fail
                  refine hK.out _ _ trivial (fun hHeld => ?_)
                  clear hK K
                  try simp only [Act.put, List.setIfInBounds_toArray, List.set_cons_zero, List.set_cons_succ]
                  refine held_yes (i := 10) (v := ?_) rfl (by kernel_rfl) (by kernel_rfl) (by kernel_rfl) (fun _ _ _ h => h) (by rfl) (fun w hSw => ?_) hHeld ?_
                  rotate_left
                  · go_simp; try with_reducible rfl
                  simp only [List.setIfInBounds_toArray, List.set_cons_zero, List.set_cons_succ]
                  refine held_only (i := 11) (by kernel_rfl) rfl (fun K hK => ?_)
                  rw [if_pos (by rfl)]
                  go_simp
                  refine (HTOP.out wr.drew).mono ?_
                  rintro e wqd7 ⟨rfl, hb1⟩
                  have HRD := Lib.hid ((HRJ.out.drop_ ((Below.refl _ _).drew)).drop_ hb1)
                  obtain ⟨cst, fst⟩ := HRD.out.seg.cell (j := kk) (by rw [addL_length]; omega)
                  have HPT := Lib.hid (HRD.out.put (j := kk) hlt4 X)
                  have HTT := Lib.hid ((touch_of_below (touch_of_below HTJ.out ((Below.refl wr.heap.size wr).drew)) hb1).trans (Touch.setCell wqd7 ⟨gh, oh + kk, none⟩ (.int .i64 (X : Int)) (S := fun i => i = gh) rfl) (fun _ _ e => e))
                  rw [HSET.out] at HPT
                  clear hb1 HRD
                  go_wp2_with fail
                  refine hK.out _ _ trivial (fun hHeld => ?_)
                  clear hK K
                  try simp only [Act.put, List.setIfInBounds_toArray, List.set_cons_zero, List.set_cons_succ]
                  refine held_yes (i := 12) (v := ?_) rfl (by kernel_rfl) (by kernel_rfl) (by kernel_rfl) (fun _ _ _ h => h) (by rfl) (fun w hSw => ?_) hHeld ?_
                  rotate_left
                  · go_simp; try with_reducible rfl
                  simp only [List.setIfInBounds_toArray, List.set_cons_zero, List.set_cons_succ]
                  refine held_only (i := 13) (by kernel_rfl) rfl (fun K hK => ?_)
                  rw [if_pos (by rfl)]
                  go_wp2_with fail
                  refine hK.out _ _ trivial (fun hHeld => ?_)
                  clear hK K
                  try simp only [Act.put, List.setIfInBounds_toArray, List.set_cons_zero, List.set_cons_succ]
                  refine wpAnyH_done (by kernel_rfl) ?_ _
                  go_wp2_with fail
                  case roundEnd =>
                    exact ⟨⟨kk + 1, by omega, by push_cast; rfl, HPT.out, HTT.out⟩, by simp only [intOf]; omega⟩
              · obtain rfl : kk = 8 := by omega
                have HRN : Hid (RAt w w7 gh oh hcp (runB (fullB msg) h0 (jb + 1)) wr) := by rw [HNX.out]; exact HRJ
                have hq64 := HQ.out
                go_wp2_with fail
                case roundEnd =>
                  exact ⟨⟨jb + 1, by omega, congrArg (Value.int .i64) (by omega), HRN.out⟩, by simp only [intOf]; omega⟩
        · obtain rfl : jb = N := by omega
          obtain ⟨qe, HQE⟩ : ∃ q, Hid (q = 64 * jb) := ⟨_, Lib.hid rfl⟩
          rw [← HQE.out]
          have hqe : (Lb : Int) ≤ (qe : Int) := by have := HQE.out; omega
          obtain ⟨sf, HSF⟩ : ∃ l, Hid (l = runB (fullB msg) h0 jb) := ⟨_, Lib.hid rfl⟩
          have HSOK : Hid (sf.length = 8 ∧ ∀ y ∈ sf, y < 4294967296) := by rw [HSF.out]; exact Lib.hid (runB_ok _ h0_ok jb)
          rw [← HSF.out] at HRA
          have HEND : Hid (outW sf 8 = sumB msg) := by
            have h := sum_full msg (by have := HL.out; omega)
            have hfl : (fullB msg).length / 64 = jb := by
              have := HSB.out.len
              rw [bvs_length] at this
              omega
            rw [hfl, ← HSF.out] at h
            exact Lib.hid h
          have HBX := Lib.hid HRA.out.below
          obtain ⟨wo, HWO⟩ : ∃ x, Hid (x = wr) := ⟨_, Lib.hid rfl⟩
          have HB0 : Hid (Below wo.heap.size wo wr) := by rw [HWO.out]; exact Lib.hid (Below.refl _ _)
          have HRO : Hid (RAt w w7 gh oh hcp sf wo) := by rw [HWO.out]; exact HRA
          have HBO : Hid (Below w.heap.size w wo) := by rw [HWO.out]; exact HBX
          clear HRA HBX HWO
          go_wp2_with fail
          go_loopw [16, 17] (fun s16 s17 wx => ∃ (kk : Nat) (A' : Option Addr) (c' : Nat), kk ≤ 8 ∧ s16 = .slice A' (4 * kk) c' ∧ s17 = .int .i64 (kk : Int) ∧ Seg wx wo.heap.size 1 A' (4 * kk) c' (bvs (outW sf kk)) ∧ Below wo.heap.size wo wx) (fun _ s17 _ => 8 - (intOf s17).toNat)
          case atStart => exact ⟨0, none, 0, by omega, rfl, rfl, Seg.nil _ _ _, HB0.out⟩
          case round =>
           obtain ⟨kk, A8, c8, hkk, rfl, rfl, hs, hb⟩ := hrel
           have HS := Lib.hid hs
           have HB := Lib.hid hb
           clear hs hb HB0
           by_cases hlt4 : kk < 8
           · obtain ⟨y, HY⟩ : ∃ x, Hid (x = sf.getD kk 0) := ⟨_, Lib.hid rfl⟩
             have by' : y < 4294967296 := by
               rw [HY.out, List.getD_eq_getElem?_getD, List.getElem?_eq_getElem (show kk < sf.length by rw [HSOK.out.1]; exact hlt4)]; exact HSOK.out.2 _ (List.getElem_mem _)
             have HOW : Hid (outW sf kk ++ wordB y = outW sf (kk + 1)) := by rw [outW, HY.out]; exact Lib.hid rfl
             have HCO : Hid (∀ w', Below wo.heap.size wo w' → w'.cell? ⟨gh, oh + kk, none⟩ = some (.int .i64 (y : Int))) := Lib.hid (fun w' hb => by rw [HY.out]; exact rdn_get HRO.out.seg.rd hb (by rw [HSOK.out.1]; exact hlt4))
             have HCY : Hid (∀ w', Below wr.heap.size wr w' → w'.cell? ⟨gh, oh + kk, none⟩ = some (.int .i64 (y : Int))) := Lib.hid (fun w' hb => HCO.out w' (HB.out.trans (hb.mono HB.out.size)))
             have HSD := Lib.hid (HCY.out wr.drew ((Below.refl _ _).drew))
             obtain ⟨x0, HX0⟩ : ∃ x, Hid (x = y / 16777216) := ⟨_, Lib.hid rfl⟩
             obtain ⟨z1, HZ1⟩ : ∃ x, Hid (x = y / 65536) := ⟨_, Lib.hid rfl⟩
             obtain ⟨z2, HZ2⟩ : ∃ x, Hid (x = y / 256) := ⟨_, Lib.hid rfl⟩
             obtain ⟨x1, HX1⟩ : ∃ x, Hid (x = z1 % 256) := ⟨_, Lib.hid rfl⟩
             obtain ⟨x2, HX2⟩ : ∃ x, Hid (x = z2 % 256) := ⟨_, Lib.hid rfl⟩
             obtain ⟨x3, HX3⟩ : ∃ x, Hid (x = y % 256) := ⟨_, Lib.hid rfl⟩
             have q0 : (y : Int) / 16777216 = (x0 : Int) := by have := HX0.out; omega
             have q1 : (y : Int) / 65536 = (z1 : Int) := by have := HZ1.out; omega
             have q2 : (y : Int) / 256 = (z2 : Int) := by have := HZ2.out; omega
             have i0 : IntKind.i64.wrap (x0 : Int) = (x0 : Int) := wsm _ (by omega) (by have := HX0.out; omega)
             have i1 : IntKind.i64.wrap (z1 : Int) = (z1 : Int) := wsm _ (by omega) (by have := HZ1.out; omega)
             have i2 : IntKind.i64.wrap (z2 : Int) = (z2 : Int) := wsm _ (by omega) (by have := HZ2.out; omega)
             have m1 : Int.tmod (z1 : Int) 256 = (x1 : Int) := by rw [Int.tmod_eq_emod_of_nonneg (by omega)]; have := HX1.out; omega
             have m2 : Int.tmod (z2 : Int) 256 = (x2 : Int) := by rw [Int.tmod_eq_emod_of_nonneg (by omega)]; have := HX2.out; omega
             have m3 : Int.tmod (y : Int) 256 = (x3 : Int) := by rw [Int.tmod_eq_emod_of_nonneg (by omega)]; have := HX3.out; omega
             have u0 : IntKind.u8.wrap (x0 : Int) = (x0 : Int) := by have := HX0.out; rw [IntKind.wrap_u8]; omega
             have u1 : IntKind.u8.wrap (x1 : Int) = (x1 : Int) := by have := HX1.out; rw [IntKind.wrap_u8]; omega
             have u2 : IntKind.u8.wrap (x2 : Int) = (x2 : Int) := by have := HX2.out; rw [IntKind.wrap_u8]; omega
             have u3 : IntKind.u8.wrap (x3 : Int) = (x3 : Int) := by have := HX3.out; rw [IntKind.wrap_u8]; omega
             have HLIT : Hid ((#[.int .u8 (x0 : Int), .int .u8 (x1 : Int), .int .u8 (x2 : Int), .int .u8 (x3 : Int)] : Array Value).toList = bvs (wordB y)) := Lib.hid (by
               have h0 := HX0.out; have h1 := HX1.out; have h2 := HX2.out; have h3 := HX3.out; have h4 := HZ1.out; have h5 := HZ2.out
               simp [bvs, wordB, bv_ofNat]; omega)
             go_wp2_with fail
             refine wp_region_held_drew (S := fun w' => w'.cell? ⟨gh, oh + kk, none⟩ = some (.int .i64 (y : Int))) (by kernel_rfl) HSD.out (fun hHeld => ?_)
             refine held_yes (i := 0) (v := ?_) rfl (by kernel_rfl) (by kernel_rfl) (by kernel_rfl) (fun _ _ _ h => h) (by rfl) (fun w hSw => ?_) hHeld ?_
             rotate_left
             · go_simp; try with_reducible rfl
             simp only [List.setIfInBounds_toArray, List.set_cons_zero, List.set_cons_succ]
             refine held_yes (i := 1) (v := ?_) rfl (by kernel_rfl) (by kernel_rfl) (by kernel_rfl) (fun _ _ _ h => h) (by rfl) (fun w hSw => ?_) hHeld ?_
             rotate_left
             · go_simp; try with_reducible rfl
             simp only [List.setIfInBounds_toArray, List.set_cons_zero, List.set_cons_succ]
             refine held_yes (i := 2) (v := ?_) rfl (by kernel_rfl) (by kernel_rfl) (by kernel_rfl) (fun _ _ _ h => h) (by rfl) (fun w hSw => ?_) hHeld ?_
             rotate_left
             · go_simp; try with_reducible rfl
             simp only [List.setIfInBounds_toArray, List.set_cons_zero, List.set_cons_succ]
             refine held_yes (i := 3) (v := ?_) rfl (by kernel_rfl) (by kernel_rfl) (by kernel_rfl) (fun _ _ _ h => h) (by rfl) (fun w hSw => ?_) hHeld ?_
             rotate_left
             · go_simp; try with_reducible rfl
             simp only [List.setIfInBounds_toArray, List.set_cons_zero, List.set_cons_succ]
             refine held_yes (i := 4) (v := ?_) rfl (by kernel_rfl) (by kernel_rfl) (by kernel_rfl) (fun _ _ _ h => h) (by rfl) (fun w hSw => ?_) hHeld ?_
             rotate_left
             · go_simp; try with_reducible rfl
             simp only [List.setIfInBounds_toArray, List.set_cons_zero, List.set_cons_succ]
             refine held_yes (i := 5) (v := ?_) rfl (by kernel_rfl) (by kernel_rfl) (by kernel_rfl) (fun _ _ _ h => h) (by rfl) (fun w hSw => ?_) hHeld ?_
             rotate_left
             · go_simp; try with_reducible rfl
             simp only [List.setIfInBounds_toArray, List.set_cons_zero, List.set_cons_succ]
             refine held_yes (i := 6) (v := ?_) rfl (by kernel_rfl) (by kernel_rfl) (by kernel_rfl) (fun _ _ _ h => h) (by rfl) (fun w hSw => ?_) hHeld ?_
             rotate_left
             · go_simp; try with_reducible rfl
             simp only [List.setIfInBounds_toArray, List.set_cons_zero, List.set_cons_succ]
             refine held_yes (i := 7) (v := ?_) rfl (by kernel_rfl) (by kernel_rfl) (by kernel_rfl) (fun _ _ _ h => h) (by rfl) (fun w hSw => ?_) hHeld ?_
             rotate_left
             · go_simp; try with_reducible rfl
             simp only [List.setIfInBounds_toArray, List.set_cons_zero, List.set_cons_succ]
             refine held_yes (i := 8) (v := ?_) rfl (by kernel_rfl) (by kernel_rfl) (by kernel_rfl) (fun _ _ _ h => h) (by rfl) (fun w hSw => ?_) hHeld ?_
             rotate_left
             · go_simp; try with_reducible rfl
             simp only [List.setIfInBounds_toArray, List.set_cons_zero, List.set_cons_succ]
             refine held_yes (i := 9) (v := ?_) rfl (by kernel_rfl) (by kernel_rfl) (by kernel_rfl) (fun _ _ _ h => h) (by rfl) (fun w hSw => ?_) hHeld ?_
             rotate_left
             · go_simp; try with_reducible rfl
             simp only [List.setIfInBounds_toArray, List.set_cons_zero, List.set_cons_succ]
             refine held_yes (i := 10) (v := ?_) rfl (by kernel_rfl) (by kernel_rfl) (by kernel_rfl) (fun _ _ _ h => h) (by rfl) (fun w hSw => ?_) hHeld ?_
             rotate_left
             · go_simp; try with_reducible rfl
             simp only [List.setIfInBounds_toArray, List.set_cons_zero, List.set_cons_succ]
             refine held_yes (i := 11) (v := ?_) rfl (by kernel_rfl) (by kernel_rfl) (by kernel_rfl) (fun _ _ _ h => h) (by rfl) (fun w hSw => ?_) hHeld ?_
             rotate_left
             · go_simp; try with_reducible rfl
             simp only [List.setIfInBounds_toArray, List.set_cons_zero, List.set_cons_succ]
             refine held_yes (i := 12) (v := ?_) rfl (by kernel_rfl) (by kernel_rfl) (by kernel_rfl) (fun _ _ _ h => h) (by rfl) (fun w hSw => ?_) hHeld ?_
             rotate_left
             · go_simp; try with_reducible rfl
             simp only [List.setIfInBounds_toArray, List.set_cons_zero, List.set_cons_succ]
             refine held_yes (i := 13) (v := ?_) rfl (by kernel_rfl) (by kernel_rfl) (by kernel_rfl) (fun _ _ _ h => h) (by rfl) (fun w hSw => ?_) hHeld ?_
             rotate_left
             · go_simp; try with_reducible rfl
             simp only [List.setIfInBounds_toArray, List.set_cons_zero, List.set_cons_succ]
             refine held_yes (i := 14) (v := ?_) rfl (by kernel_rfl) (by kernel_rfl) (by kernel_rfl) (fun _ _ _ h => h) (by rfl) (fun w hSw => ?_) hHeld ?_
             rotate_left
             · go_simp; try with_reducible rfl
             simp only [List.setIfInBounds_toArray, List.set_cons_zero, List.set_cons_succ]
             refine held_yes (i := 15) (v := ?_) rfl (by kernel_rfl) (by kernel_rfl) (by kernel_rfl) (fun _ _ _ h => h) (by rfl) (fun w hSw => ?_) hHeld ?_
             rotate_left
             · go_simp; try with_reducible rfl
             simp only [List.setIfInBounds_toArray, List.set_cons_zero, List.set_cons_succ]
             refine held_yes (i := 16) (v := ?_) rfl (by kernel_rfl) (by kernel_rfl) (by kernel_rfl) (fun _ _ _ h => h) (by rfl) (fun w hSw => ?_) hHeld ?_
             rotate_left
             · go_simp; try with_reducible rfl
             simp only [List.setIfInBounds_toArray, List.set_cons_zero, List.set_cons_succ]
             refine held_yes (i := 17) (v := ?_) rfl (by kernel_rfl) (by kernel_rfl) (by kernel_rfl) (fun _ _ _ h => h) (by rfl) (fun w hSw => ?_) hHeld ?_
             rotate_left
             · go_simp; try with_reducible rfl
             simp only [List.setIfInBounds_toArray, List.set_cons_zero, List.set_cons_succ]
             refine held_yes (i := 18) (v := ?_) rfl (by kernel_rfl) (by kernel_rfl) (by kernel_rfl) (fun _ _ _ h => h) (by rfl) (fun w hSw => ?_) hHeld ?_
             rotate_left
             · go_simp; try with_reducible rfl
             simp only [List.setIfInBounds_toArray, List.set_cons_zero, List.set_cons_succ]
             refine held_yes (i := 19) (v := ?_) rfl (by kernel_rfl) (by kernel_rfl) (by kernel_rfl) (fun _ _ _ h => h) (by rfl) (fun w hSw => ?_) hHeld ?_
             rotate_left
             · go_simp; try with_reducible rfl
             simp only [List.setIfInBounds_toArray, List.set_cons_zero, List.set_cons_succ]
             refine held_yes (i := 20) (v := ?_) rfl (by kernel_rfl) (by kernel_rfl) (by kernel_rfl) (fun _ _ _ h => h) (by rfl) (fun w hSw => ?_) hHeld ?_
             rotate_left
             · go_simp; try with_reducible rfl
             simp only [List.setIfInBounds_toArray, List.set_cons_zero, List.set_cons_succ]
             refine held_yes (i := 21) (v := ?_) rfl (by kernel_rfl) (by kernel_rfl) (by kernel_rfl) (fun _ _ _ h => h) (by rfl) (fun w hSw => ?_) hHeld ?_
             rotate_left
             · go_simp; try with_reducible rfl
             simp only [List.setIfInBounds_toArray, List.set_cons_zero, List.set_cons_succ]
             refine held_yes (i := 22) (v := ?_) rfl (by kernel_rfl) (by kernel_rfl) (by kernel_rfl) (fun _ _ _ h => h) (by rfl) (fun w hSw => ?_) hHeld ?_
             rotate_left
             · go_simp; try with_reducible rfl
             simp only [List.setIfInBounds_toArray, List.set_cons_zero, List.set_cons_succ]
             refine held_yes (i := 23) (v := ?_) rfl (by kernel_rfl) (by kernel_rfl) (by kernel_rfl) (fun _ _ _ h => h) (by rfl) (fun w hSw => ?_) hHeld ?_
             rotate_left
             · go_simp; try with_reducible rfl
             simp only [List.setIfInBounds_toArray, List.set_cons_zero, List.set_cons_succ]
             refine held_yes (i := 24) (v := ?_) rfl (by kernel_rfl) (by kernel_rfl) (by kernel_rfl) (fun _ _ _ h => h) (by rfl) (fun w hSw => ?_) hHeld ?_
             rotate_left
             · go_simp; try with_reducible rfl
             simp only [List.setIfInBounds_toArray, List.set_cons_zero, List.set_cons_succ]
             refine held_yes (i := 25) (v := ?_) rfl (by kernel_rfl) (by kernel_rfl) (by kernel_rfl) (fun _ _ _ h => h) (by rfl) (fun w hSw => ?_) hHeld ?_
             rotate_left
             · go_simp; try with_reducible rfl
             simp only [List.setIfInBounds_toArray, List.set_cons_zero, List.set_cons_succ]
             refine held_yes (i := 26) (v := ?_) rfl (by kernel_rfl) (by kernel_rfl) (by kernel_rfl) (fun _ _ _ h => h) (by rfl) (fun w hSw => ?_) hHeld ?_
             rotate_left
             · go_simp; try with_reducible rfl
             simp only [List.setIfInBounds_toArray, List.set_cons_zero, List.set_cons_succ]
             refine held_only (i := 27) (by kernel_rfl) rfl (fun K hK => ?_)
             rw [if_pos (by rfl)]
             go_wp2_with fail
             refine world_at (F := fun wx => Below wr.heap.size wr wx ∧ Rd wx 1 (some ⟨wr.heap.size, 0, none⟩) 4 4 (bvs (wordB y))) ⟨(Below.refl _ _).drew.alloc (Nat.le_refl _) _, (seg_lit wr.drew #[.int .u8 (x0 : Int), .int .u8 (x1 : Int), .int .u8 (x2 : Int), .int .u8 (x3 : Int)] (wordB y) _ wr.heap.size HLIT.out (Nat.le_refl _) (by simp [maxLen, wordB])).rd⟩ (fun wqe1 HF => ?_)
             have HBL := Lib.hid HF.out.1
             have HRL := Lib.hid HF.out.2
             have HBQe1 := HCY.out wqe1 HBL.out
             clear HF
             refine hK.out _ _ HBQe1 (fun hHeld => ?_)
             clear hK K
             try simp only [Act.put, List.setIfInBounds_toArray, List.set_cons_zero, List.set_cons_succ]
             refine held_only (i := 28) (by kernel_rfl) rfl (fun K hK => ?_)
             rw [if_pos (by rfl)]
             have HSA := Lib.hid (HS.out.below HBL.out)
             have HBA := Lib.hid (HB.out.trans (HBL.out.mono HB.out.size))
             refine wp_append_seg _ _ _ _ rfl ei_u8 rfl HSA.out rfl (HRL.out.src Try.underlying32 (bvs_one _)) (by simp only [maxLen]; omega) (by omega) HBA.out.size ?_
             intro A9 c9 wqe2 hs9 hg9
             have HS9 := Lib.hid hs9
             have HB9 := Lib.hid (HBA.out.grown hg9 HBA.out.size HSA.out.own_row)
             clear hs9 hg9
             have HBQe2 := HCO.out wqe2 HB9.out
             refine hK.out _ _ HBQe2 (fun hHeld => ?_)
             clear hK K
             try simp only [Act.put, List.setIfInBounds_toArray, List.set_cons_zero, List.set_cons_succ]
             refine held_yes (i := 29) (v := ?_) rfl (by kernel_rfl) (by kernel_rfl) (by kernel_rfl) (fun _ _ _ h => h) (by rfl) (fun w hSw => ?_) hHeld ?_
             rotate_left
             · go_simp; try with_reducible rfl
             simp only [List.setIfInBounds_toArray, List.set_cons_zero, List.set_cons_succ]
             refine wpAnyH_done (by kernel_rfl) ?_ _
             go_wp2_with fail
             case roundEnd =>
               refine ⟨⟨kk + 1, A9, c9, by omega, rfl, by push_cast; rfl, ?_, HB9.out⟩, by simp only [intOf]; omega⟩
               have h := HS9.out
               rw [← bvs_append, HOW.out] at h
               exact h
           · obtain rfl : kk = 8 := by omega
             go_wp2_with fail
             go_ret
             rw [HEND.out] at HS
             exact ⟨A8, c8, rfl, HS.out.mono HBO.out.size, HBO.out.trans (HB.out.mono HBO.out.size)⟩
end Go.Proofs.Ythpigmkdchnnoaa
