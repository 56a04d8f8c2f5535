/- The contract of Hash.Sum. -/
import Derived.Test.YthpigmkdchnnoaaSha5
import Derived.Test.YthpigmkdchnnoaaKit
namespace Go.Proofs.Ythpigmkdchnnoaa
open Go.RowKit
set_option linter.unusedVariables false
set_option linter.unusedSimpArgs false

/-- The end of the last block: 128, then nothings. -/
def zeros (z : Nat) : List UInt8 := List.replicate z 0
def lenB (m : Nat) : List UInt8 := (List.range 8).map fun j => UInt8.ofNat (m * 8 / 2 ^ (56 - 8 * j))
def padB (tail : List UInt8) (m : Nat) : List UInt8 := tail ++ [128] ++ zeros ((119 - tail.length) % 64) ++ lenB m

theorem lenB_take (m q : Nat) (h : q < 8) : (lenB m).take (q + 1) = (lenB m).take q ++ [UInt8.ofNat (m * 8 / 2 ^ (56 - 8 * q))] := by
  rw [List.take_add_one]
  simp [lenB, h]
theorem lenB_length (m : Nat) : (lenB m).length = 8 := by simp [lenB]
/-- The state behind i blocks of what was padded. -/
def runB (pb : List UInt8) (st : List Nat) : Nat → List Nat
  | 0 => st
  | i + 1 => compB (pb.drop (64 * i)) (runB pb st i)
theorem runB_ok (pb : List UInt8) {st : List Nat} (h : st.length = 8 ∧ ∀ y ∈ st, y < 4294967296) : ∀ i, (runB pb st i).length = 8 ∧ ∀ y ∈ runB pb st i, y < 4294967296
  | 0 => h
  | i + 1 => comp_ok _ (runB_ok pb h i)
def wordB (y : Nat) : List UInt8 := [UInt8.ofNat (y / 16777216), UInt8.ofNat (y / 65536), UInt8.ofNat (y / 256), UInt8.ofNat y]
def outW (st : List Nat) : Nat → List UInt8
  | 0 => []
  | q + 1 => outW st q ++ wordB (st.getD q 0)
theorem outW_length (st : List Nat) : ∀ q, (outW st q).length = 4 * q
  | 0 => rfl
  | q + 1 => by rw [outW, List.length_append, outW_length st q]; simp [wordB]; omega
/-- The sum of a message. -/
def sumB (msg : List UInt8) : List UInt8 :=
  let pb := padB (msg.drop (64 * (msg.length / 64))) msg.length
  outW (runB pb (stN msg (msg.length / 64)) (pb.length / 64)) 8
theorem sumB_length (msg : List UInt8) : (sumB msg).length = 32 := outW_length _ 8

/-- The state's block, and what is padded. -/
structure SumAt (w : World) (gs : Nat) (cs : Array Value) (A : Option Addr) (n c : Nat) (xs : List Value) (wx : World) : Prop where
  row : wx.heap[gs]? = some (.cells cs 103 (0, 0))
  seg : Seg wx w.heap.size 1 A n c xs
  lt : ∀ a, A = some a → a.block ≠ gs
  base : w.heap.size ≤ gs
  below : Below w.heap.size w wx
theorem sum_at {w : World} {gs : Nat} {cs : Array Value} {A : Option Addr} {n c : Nat} {xs : List Value} {W : World} {K : Act → World → Prop} {a : Act} (h : Hid (SumAt w gs cs A n c xs W)) (f : ∀ wx, Hid (SumAt w gs cs A n c xs wx) → K a wx) : K a W := f W h
namespace SumAt
variable {w wx w1 : World} {gs : Nat} {cs : Array Value} {A : Option Addr} {n c : Nat} {xs : List Value}
theorem start (hs : Seg wx w.heap.size 1 A n c xs) (hb : Below w.heap.size w wx) (z cs : Array Value) (hz : z.size = cs.size) : SumAt w wx.heap.size cs A n c xs ((wx.alloc (.cells z 103)).setCells wx.heap.size 0 cs.toList) := by
  refine ⟨row_whole (heap_alloc_new wx _) cs hz, (hs.below ((Below.refl _ _).alloc (Nat.le_refl _) _)).touch (Touch.setCells (S := fun i => i = wx.heap.size) _ rfl _ _ _) (fun a ha e => by have := hs.lt a ha; omega), fun a ha e => by have := hs.lt a ha; omega, hb.size, ?_⟩
  exact (hb.alloc hb.size _).trans ((Touch.setCells (S := fun i => i = wx.heap.size) wx.heap.size rfl cs.toList 0 _).below (fun k _ e => by have := hb.size; omega) (by have := hb.size; simp; omega))
theorem step (h : SumAt w gs cs A n c xs wx) (hb1 : Below wx.heap.size wx w1) (cn : Array Value) (hz : cs.size = cn.size) : w1.there gs 0 cn.size ∧ SumAt w gs cn A n c xs (w1.setCells gs 0 cn.toList) := by
  have hlt : gs < wx.heap.size := (Array.getElem?_eq_some_iff.1 h.row).1
  have hrow := (hb1.block gs hlt).trans h.row
  refine ⟨there_whole hrow _ hz.symm, row_whole hrow cn hz, (h.seg.below hb1).touch (Touch.setCells (S := fun i => i = gs) _ rfl _ _ _) h.lt, h.lt, h.base, ?_⟩
  exact (h.below.trans (hb1.mono h.below.size)).trans ((Touch.setCells (S := fun i => i = gs) gs rfl cn.toList 0 _).below (fun k _ e => by have := h.base; omega) (Nat.le_trans h.below.size hb1.size))
theorem cut {g o : Nat} (h : SumAt w gs cs (some ⟨g, o, none⟩) n c xs wx) (hbase : w.heap.size ≤ g) {k : Nat} (hk : k ≤ n) : SumAt w gs cs (if c = k then some ⟨g, o, none⟩ else some ⟨g, o + k, none⟩) (n - k) (c - k) (xs.drop k) wx := by
  refine ⟨h.row, h.seg.from hk, fun a ha => ?_, h.base, h.below⟩
  have := h.lt ⟨g, o, none⟩ rfl
  split at ha <;> cases ha <;> exact this
end SumAt

def lenOf : Value → Nat | .slice _ n _ => n | _ => 0
theorem Seg.own_row {w : World} {base size : Nat} {A : Option Addr} {n c : Nat} {xs : List Value} (h : Seg w base size A n c xs) : ∀ r, A.map (·.block) = some r → base ≤ r := by
  intro r hr
  cases A with
  | none => cases hr
  | some a => cases hr; exact h.base_le a rfl
set_option maxRecDepth 100000 in
set_option maxHeartbeats 1000000 in
theorem hsum_any (base hb k : Nat) (A : Option Addr) (n c : Nat) (msg : List UInt8) (w : World) (hh : Hsh w base hb k A n c msg.length msg) (hn : n < 64) (hm : msg.length ≤ 1099511627776) :
    Calls Try.prog 47 #[.pointer (some ⟨hb, 0, none⟩)] w fun e w' => ∃ A' c', e = .returned (.slice A' 32 c') ∧ Seg w' w.heap.size 1 A' 32 c' (bvs (sumB msg)) ∧ Below w.heap.size w w' := by
  have h8 := hh.rest
  have h9 := hh.count
  have hlt0 := hh.lt
  have HH := Lib.hid hh
  have HR := Lib.hid (hh.seg.rd.below ((Below.refl _ _).alloc (Nat.le_refl _) (.cells #[] 5)))
  have HN := Lib.hid hh.length
  clear hh
  go_enter Try.func47, Try.ntmps47
  go_wp2_with (first | (at_builtin; refine wpList_append_seg rfl _ _ _ _ rfl ei_u8 rfl (seg_empty w _) rfl (HR.out.src Try.underlying32 (bvs_one _)) (by simp only [maxLen]; omega) (by omega) (by simp) ?_; intro A1 c1 w1 hs1 hg1 _; rw [Nat.zero_add] at hs1; have HB1 := Lib.hid (((Below.refl w.heap.size w).alloc (Nat.le_refl _) (.cells #[] 5)).grown hg1 (by simp) (fun r hr => by cases hr; exact Nat.le_refl _)); have HS1 := Lib.hid (hs1.below ((Below.refl _ _).alloc (Nat.le_refl _) (.cells #[.int .u8 128] 5))); clear hs1 hg1) | (at_builtin; refine wpList_append_seg rfl _ _ _ _ rfl ei_u8 rfl HS1.out rfl ((seg_lit w1 #[.int .u8 128] [128] _ w1.heap.size rfl (Nat.le_refl _) (by decide)).rd.src Try.underlying32 (bvs_one _)) (by simp only [maxLen, List.length_cons, List.length_nil]; omega) (by simp only [List.length_cons, List.length_nil]; omega) (by have := HB1.out.size; simp; omega) ?_; intro A2 c2 w2 hs2 hg2 _; have HB2 := Lib.hid ((HB1.out.alloc HB1.out.size (.cells #[.int .u8 128] 5)).grown hg2 (by have := HB1.out.size; simp; omega) HS1.out.own_row); have HS2 := Lib.hid hs2; clear hs2 hg2))
  obtain ⟨tl, HTL⟩ : ∃ tl, Hid (tl = msg.drop (64 * k)) := ⟨_, Lib.hid rfl⟩
  have HS3 : Hid (Seg w2 w.heap.size 1 A2 (n + 1 + 0) c2 (bvs (tl ++ [128] ++ zeros 0))) := Lib.hid (by have h := HS2.out; rw [← HTL.out] at h; simpa [bvs, zeros] using h)
  clear HS1 HB1 HS2
  obtain ⟨z, hz⟩ : ∃ z, z = (119 - n) % 64 := ⟨_, rfl⟩
  go_loopw [3] (fun s3 wr => ∃ j A' c', s3 = .slice A' (n + 1 + j) c' ∧ j ≤ z ∧ Seg wr w.heap.size 1 A' (n + 1 + j) c' (bvs (tl ++ [128] ++ zeros j)) ∧ Below w.heap.size w wr) (fun s3 _ => 200 - lenOf s3)
  case atStart => exact ⟨0, _, _, rfl, by omega, HS3.out, HB2.out⟩
  case round =>
    obtain ⟨j, A3, c3, rfl, hj, hs3, hb3⟩ := hrel
    have HS := Lib.hid hs3
    have HB := Lib.hid hb3
    clear hs3 hb3 HS3 HB2
    by_cases hlt : j < z
    · have hgd : (((n : Int) + 1 + (j : Int)) % 64 != 56) = true := by rw [bne_iff_ne]; omega
      have HS1 := Lib.hid (HS.out.below ((Below.refl _ _).alloc (Nat.le_refl _) (.cells #[.int .u8 0] 5)))
      go_wp2_with (at_builtin; refine wpList_append_seg rfl _ _ _ _ rfl ei_u8 rfl HS1.out rfl ((seg_lit wr #[.int .u8 0] [0] _ wr.heap.size rfl (Nat.le_refl _) (by decide)).rd.src Try.underlying32 (bvs_one _)) (by simp only [maxLen, List.length_cons, List.length_nil]; omega) (by simp only [List.length_cons, List.length_nil]; omega) (by have := HB.out.size; simp; omega) ?_; intro A4 c4 w4 hs4 hg4 _; have HB4 := Lib.hid ((HB.out.alloc HB.out.size (.cells #[.int .u8 0] 5)).grown hg4 (by have := HB.out.size; simp; omega) HS1.out.own_row); have HS4 := Lib.hid hs4; clear hs4 hg4)
      case roundEnd =>
        refine ⟨⟨j + 1, _, _, rfl, by omega, ?_, HB4.out⟩, by simp only [lenOf]; omega⟩
        have h := HS4.out
        rw [show bvs (tl ++ [128] ++ zeros j) ++ bvs [0] = bvs (tl ++ [128] ++ zeros (j + 1)) by simp [bvs, zeros, List.replicate_succ']] at h
        exact h
    · obtain rfl : j = z := by omega
      have hgd : (((n : Int) + 1 + (j : Int)) % 64 != 56) = false := by rw [bne_eq_false_iff_eq]; omega
      go_wp2_with fail
      obtain ⟨L, hL⟩ : ∃ L, L = n + 1 + j := ⟨_, rfl⟩
      have HS0 : Hid (Seg wr w.heap.size 1 A3 (L + 0) c3 (bvs (tl ++ [128] ++ zeros j ++ (lenB msg.length).take 0))) := Lib.hid (by have h := HS.out; rw [← hL] at h; simpa using h)
      have HB0 := HB
      rw [← hL]
      clear HS HB hgd
      have hL2 : L ≤ 128 := by omega
      have hL3 : (L + 8) % 64 = 0 := by omega
      clear hL
      go_loopw [3, 4] (fun s3 s4 wx => ∃ q A' c', q ≤ 8 ∧ s3 = .slice A' (L + q) c' ∧ s4 = .int .i64 (56 - 8 * (q : Int)) ∧ Seg wx w.heap.size 1 A' (L + q) c' (bvs (tl ++ [128] ++ zeros j ++ (lenB msg.length).take q)) ∧ Below w.heap.size w wx) (fun s3 _ _ => 200 - lenOf s3)
      case atStart => exact ⟨0, _, _, by omega, rfl, rfl, HS0.out, HB0.out⟩
      case round =>
        obtain ⟨q, A5, c5, hq, rfl, rfl, hs5, hb5⟩ := hrel
        have HS := Lib.hid hs5
        have HB := Lib.hid hb5
        have hc9 : wr.cell? ⟨hb, 9, none⟩ = some (.int .i64 (msg.length : Int)) := (hb5.cell hlt0).trans h9
        clear hs5 hb5 HS0 HB0
        by_cases hlt : q < 8
        · have hlit : (#[Value.int .u8 ((msg.length : Int) * 8 / 2 ^ (56 - 8 * q) % 256)] : Array Value).toList = bvs [UInt8.ofNat (msg.length * 8 / 2 ^ (56 - 8 * q))] := by simp [bvs, bv_ofNat]
          have HLIT := Lib.hid hlit
          have HS1 := Lib.hid (HS.out.below ((Below.refl _ _).alloc (Nat.le_refl _) (.cells #[Value.int .u8 ((msg.length : Int) * 8 / 2 ^ (56 - 8 * q) % 256)] 5)))
          clear hlit
          go_wp2_with (at_builtin; refine wpList_append_seg rfl _ _ _ _ rfl ei_u8 rfl HS1.out rfl ((seg_lit wr _ [UInt8.ofNat (msg.length * 8 / 2 ^ (56 - 8 * q))] _ wr.heap.size HLIT.out (Nat.le_refl _) (by simp [maxLen])).rd.src Try.underlying32 (bvs_one _)) (by simp only [maxLen, List.length_cons, List.length_nil]; omega) (by simp only [List.length_cons, List.length_nil]; omega) (by have := HB.out.size; simp; omega) ?_; intro A6 c6 w6 hs6 hg6 _; have HB6 := Lib.hid ((HB.out.alloc HB.out.size (.cells #[Value.int .u8 ((msg.length : Int) * 8 / 2 ^ (56 - 8 * q) % 256)] 5)).grown hg6 (by have := HB.out.size; simp; omega) HS1.out.own_row); have HS6 := Lib.hid hs6; clear hs6 hg6)
          · refine ⟨⟨q + 1, by omega, A6, c6, ⟨rfl, by omega, rfl⟩, by push_cast; omega, ?_, HB6.out⟩, by simp only [lenOf]; omega⟩
            have h := HS6.out
            rw [show bvs (tl ++ [128] ++ zeros j ++ (lenB msg.length).take q) ++ bvs [UInt8.ofNat (msg.length * 8 / 2 ^ (56 - 8 * q))] = bvs (tl ++ 128 :: (zeros j ++ (lenB msg.length).take (q + 1))) by rw [lenB_take _ _ hlt]; simp [bvs]] at h
            rw [← hz]
            exact h
        · obtain rfl : q = 8 := by omega
          obtain ⟨s0, HS0⟩ : ∃ s0, Hid (s0 = sArr (stN msg k)) := ⟨_, Lib.hid rfl⟩
          have HS08 : Hid (s0.toList.length = 8) := by rw [HS0.out]; exact Lib.hid (by simp [sArr, (stN_ok msg k).1])
          have HS0O : Hid (s0.all (·.oneCell') = true) := by rw [HS0.out]; exact Lib.hid (u32_cells _)
          have HSR : Hid (wr.rangeAt hb 0 s0.toList) := Lib.hid (fun j v hv => (HB.out.cell hlt0).trans (HH.out.range j v (by rw [← HS0.out]; exact hv)))
          have HI8 : ∀ n, n = 8 → (Try.prog.info? 103).map (·.size) = some n := fun n hn => by subst hn; kernel_rfl
          have HTN : Hid (tl.length = n) := by rw [HTL.out, HN.out]; exact Lib.hid (by simp)
          obtain ⟨pb, HPB⟩ : ∃ pb, Hid (pb = padB tl msg.length) := ⟨_, Lib.hid rfl⟩
          have HXS : Hid (tl ++ [128] ++ zeros j ++ (lenB msg.length).take 8 = pb) := by rw [HPB.out, padB, List.take_of_length_le (by rw [lenB_length]; omega), HTN.out, ← hz]; exact Lib.hid rfl
          rw [HXS.out] at HS
          have hPL : pb.length = L + 8 := by have := HS.out.len; rw [bvs_length] at this; omega
          obtain ⟨N, hN⟩ : ∃ N, L + 8 = 64 * N := ⟨(L + 8) / 64, by omega⟩
          clear HXS
          have HST := Lib.hid (SumAt.start HS.out HB.out (#[.int .u32 0, .int .u32 0, .int .u32 0, .int .u32 0, .int .u32 0, .int .u32 0, .int .u32 0, .int .u32 0]) s0 (by rw [← Array.length_toList (xs := s0), HS08.out]; rfl))
          obtain ⟨gs, HGS⟩ : ∃ gs, Hid (gs = wr.heap.size) := ⟨_, Lib.hid rfl⟩
          go_wp2_with (first | (refine wpList_load_mid rfl 103 _ rfl hb 0 rfl s0.toList _ HSR.out Try.underlying103 rfl (HI8 _ HS08.out) ?_) | (refine wpList_store_mid rfl 103 _ _ rfl wr.heap.size 0 s0 rfl rfl (there_whole (heap_alloc_new wr _) _ (by rw [← Array.length_toList (xs := s0), HS08.out]; rfl)) (HI8 _ (by rw [← Array.length_toList (xs := s0), HS08.out])) HS0O.out ?_; refine sum_at (K := fun a w => wpList _ _ _ _ a w) HST (fun wn HST => ?_)))
          rw [← HGS.out] at HST
          try simp only [Act.put, List.setIfInBounds_toArray, List.set_cons_zero, List.set_cons_succ]
          rw [← HGS.out]
          go_loopw [3] (fun s3 wx => ∃ i A' c', s3 = .slice A' (64 * (N - i)) c' ∧ i ≤ N ∧ SumAt w gs (sArr (runB pb (stN msg k) i)) A' (64 * (N - i)) c' (bvs (pb.drop (64 * i))) wx) (fun s3 _ => lenOf s3)
          case atStart => exact ⟨0, A5, c5, by simp [hN], by omega, by have h := HST.out; rw [hN] at h; simpa [runB, ← HS0.out] using h⟩
          case round =>
            obtain ⟨i, A7, c7, rfl, hi, hst⟩ := hrel
            have HST2 := Lib.hid hst
            clear hst HST HSR HS HB
            by_cases hlt : i < N
            · obtain ⟨g, o, rfl, _⟩ := HST2.out.seg.rd.at_ (by omega)
              obtain ⟨M, HM⟩ : ∃ M, Hid (M = 64 * (N - i)) := ⟨_, Lib.hid rfl⟩
              rw [← HM.out] at HST2
              rw [← HM.out]
              have l64 : (64 : Int) ≤ M := by have := HM.out; omega
              obtain ⟨so, HSO⟩ : ∃ so, Hid (so = sArr (runB pb (stN msg k) i)) := ⟨_, Lib.hid rfl⟩
              obtain ⟨sn, HSN⟩ : ∃ sn, Hid (sn = sArr (runB pb (stN msg k) (i + 1))) := ⟨_, Lib.hid rfl⟩
              have HCC : Hid (Calls Try.prog 53 #[.agg so, .slice (some ⟨g, o, none⟩) M c7] wr fun e w' => e = .returned (.agg sn) ∧ Below wr.heap.size wr w') := by
                rw [HSO.out, HSN.out]
                exact Lib.hid (compress_any _ M c7 (pb.drop (64 * i)) (runB pb (stN msg k) i) (runB_ok _ (stN_ok _ _) _) _ HST2.out.seg.rd (by have := HM.out; omega))
              rw [← HSO.out] at HST2
              have HSO8 : Hid (so.toList.length = 8) := by rw [HSO.out]; exact Lib.hid (by simp [sArr, (runB_ok pb (stN_ok msg k) i).1])
              have HSN8 : Hid (sn.size = 8) := by rw [HSN.out]; exact Lib.hid (by simp [sArr, (runB_ok pb (stN_ok msg k) (i + 1)).1])
              have HSNO : Hid (sn.all (·.oneCell') = true) := by rw [HSN.out]; exact Lib.hid (u32_cells _)
              have hc2 : M ≤ c7 := HST2.out.seg.cap
              go_wp2_with (first | (refine wpList_load_mid rfl 103 _ rfl gs 0 rfl so.toList _ (rangeAt_whole HST2.out.row) Try.underlying103 rfl (HI8 _ HSO8.out) ?_) | (refine HCC.out.mono ?_; rintro e wq ⟨rfl, hq⟩; have HQ := Lib.hid (HST2.out.step hq sn (by rw [HSN8.out, ← Array.length_toList, HSO8.out])); clear hq) | (refine wpList_store_mid rfl 103 _ _ rfl gs 0 sn rfl rfl HQ.out.1 (HI8 _ HSN8.out) HSNO.out ?_; refine sum_at (K := fun a w => wpList _ _ _ _ a w) (Lib.hid HQ.out.2) (fun wn HST3 => ?_)))
              case roundEnd =>
                have hM1 : 64 * (N - (i + 1)) = M - 64 := by have := HM.out; omega
                have hb7 := HST2.out.seg.base_le ⟨g, o, none⟩ rfl
                refine ⟨⟨i + 1, _, _, by rw [hM1], by omega, ?_⟩, by simp only [lenOf]; omega⟩
                rw [hM1]
                have h := HST3.out.cut hb7 (k := 64) (by omega)
                rw [show (bvs (pb.drop (64 * i))).drop 64 = bvs (pb.drop (64 * (i + 1))) by simp [bvs, List.drop_drop, Nat.mul_add], HSN.out] at h
                exact h
            · obtain rfl : i = N := by omega
              rw [show 64 * (i - i) = 0 by simp] at HST2 ⊢
              have HB7 := Lib.hid HST2.out.below
              obtain ⟨sf, HSF⟩ : ∃ sf, Hid (sf = runB pb (stN msg k) i) := ⟨_, Lib.hid rfl⟩
              obtain ⟨sg, HSG⟩ : ∃ sg, Hid (sg = sArr sf) := ⟨_, Lib.hid rfl⟩
              have HSF8 : Hid (sf.length = 8 ∧ ∀ y ∈ sf, y < 4294967296) := by rw [HSF.out]; exact Lib.hid (runB_ok pb (stN_ok msg k) i)
              rw [← HSF.out, ← HSG.out] at HST2
              have HSG8 : Hid (sg.toList.length = 8) := by rw [HSG.out]; exact Lib.hid (by simp [sArr, HSF8.out.1])
              go_wp2_with (first | (refine wpList_load_mid rfl 103 _ rfl gs 0 rfl sg.toList _ (rangeAt_whole HST2.out.row) Try.underlying103 rfl (HI8 _ HSG8.out) ?_))
              try simp only [Act.put, List.setIfInBounds_toArray, List.set_cons_zero, List.set_cons_succ]
              go_loopw [6, 52] (fun s6 s52 wx => ∃ q A' c', q ≤ 8 ∧ s6 = .slice A' (4 * q) c' ∧ s52 = .int .i64 (q : Int) ∧ Seg wx w.heap.size 1 A' (4 * q) c' (bvs (outW sf q)) ∧ Below w.heap.size w wx) (fun _ s52 _ => 8 - (intOf s52).toNat)
              case atStart => exact ⟨0, none, 0, by omega, rfl, rfl, Seg.nil _ _ _, HB7.out⟩
              case round =>
                obtain ⟨q, A8, c8, hq, rfl, rfl, hs8, hb8⟩ := hrel
                have HS := Lib.hid hs8
                have HB := Lib.hid hb8
                clear hs8 hb8 HST2 HB7
                by_cases hlt : q < 8
                · have hix : ∀ w, (Instr.index 103 (.agg sg) (.int .i64 q)).run Try.prog w = .ok (.int .u32 (sf.getD q 0 : Nat)) w := fun w => run_index_row Try.underlying103 Try.underlying102 (by kernel_rfl) w _ q hlt _ (by
                    rw [HSG.out]
                    simp [sArr, Go.Proofs.Ythpigmkdchnnoaa.u32, List.getD_eq_getElem?_getD, List.getElem?_eq_getElem (show q < sf.length by rw [HSF8.out.1]; exact hlt)])
                  have hst : sf.getD q 0 < 4294967296 := by
                    rw [List.getD_eq_getElem?_getD, List.getElem?_eq_getElem (show q < sf.length by rw [HSF8.out.1]; exact hlt)]; exact HSF8.out.2 _ (List.getElem_mem _)
                  obtain ⟨y, HY⟩ : ∃ y, Hid (y = sf.getD q 0) := ⟨_, Lib.hid rfl⟩
                  rw [← HY.out] at hst
                  simp only [← HY.out] at hix
                  have HLIT : Hid ((#[Value.int .u8 ((y : Int) / 16777216), Value.int .u8 ((y : Int) / 65536 % 256), Value.int .u8 ((y : Int) / 256 % 256), Value.int .u8 ((y : Int) % 256)] : Array Value).toList = bvs (wordB y)) := Lib.hid (by simp [bvs, wordB, bv_ofNat]; omega)
                  have HS1 := Lib.hid (HS.out.below ((Below.refl _ _).alloc (Nat.le_refl _) (.cells #[Value.int .u8 ((y : Int) / 16777216), Value.int .u8 ((y : Int) / 65536 % 256), Value.int .u8 ((y : Int) / 256 % 256), Value.int .u8 ((y : Int) % 256)] 5)))
                  go_wp2_with (at_builtin; refine wpList_append_seg rfl _ _ _ _ rfl ei_u8 rfl HS1.out rfl ((seg_lit wr _ (wordB y) _ wr.heap.size HLIT.out (Nat.le_refl _) (by simp [maxLen, wordB])).rd.src Try.underlying32 (bvs_one _)) (by simp only [maxLen, wordB, List.length_cons, List.length_nil]; omega) (by simp only [wordB, List.length_cons, List.length_nil]; omega) (by have := HB.out.size; simp; omega) ?_; intro A9 c9 w9 hs9 hg9 _; have HB9 := Lib.hid ((HB.out.alloc HB.out.size (.cells #[Value.int .u8 ((y : Int) / 16777216), Value.int .u8 ((y : Int) / 65536 % 256), Value.int .u8 ((y : Int) / 256 % 256), Value.int .u8 ((y : Int) % 256)] 5)).grown hg9 (by have := HB.out.size; simp; omega) HS1.out.own_row); have HS9 := Lib.hid hs9; clear hs9 hg9)
                  case roundEnd =>
                    refine ⟨⟨q + 1, A9, c9, by omega, rfl, by push_cast; rfl, ?_, HB9.out⟩, by simp [intOf]; omega⟩
                    have h := HS9.out
                    rw [← bvs_append, show outW sf q ++ wordB y = outW sf (q + 1) by rw [outW, HY.out]] at h
                    exact h
                · obtain rfl : q = 8 := by omega
                  go_wp2_with fail
                  go_ret
                  refine ⟨A8, c8, rfl, ?_, HB.out⟩
                  have hk : k = msg.length / 64 := by have := HN.out; have := HH.out.le; omega
                  have hi : i = pb.length / 64 := by omega
                  rw [show outW sf 8 = sumB msg by rw [HSF.out, sumB, hi, HPB.out, HTL.out, hk]] at HS
                  exact HS.out
end Go.Proofs.Ythpigmkdchnnoaa
