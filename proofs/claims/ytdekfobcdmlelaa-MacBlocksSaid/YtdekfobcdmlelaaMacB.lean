/- The contract of mac.Code. -/
import Derived.Test.YtdekfobcdmlelaaMacA
namespace Go.Proofs.Ytdekfobcdmlelaa
open Go.RowKit
set_option linter.unusedVariables false
set_option linter.unusedSimpArgs false

theorem Parts.two {w : World} {A B : Option Addr} {n c m d : Nat} {xs bs : List UInt8} (h : Rd w 1 A n c (bvs xs)) (h' : Rd w 1 B m d (bvs bs)) : Parts w [.slice A n c, .slice B m d] [xs, bs] :=
  ⟨rfl, fun k v b hv hb => match k, hv, hb with
    | 0, hv, hb => by simp at hv hb; subst hv; subst hb; exact ⟨A, n, c, rfl, h⟩
    | 1, hv, hb => by simp at hv hb; subst hv; subst hb; exact ⟨B, m, d, rfl, h'⟩
    | k + 2, hv, hb => by simp at hv⟩
set_option maxRecDepth 100000 in
set_option maxHeartbeats 2000000 in
theorem code_any (A : Option Addr) (n c : Nat) (key : List UInt8) (Ap : Option Addr) (np cp : Nat) (vs : List Value) (bss : List (List UInt8)) (w : World) (hr : Rd w 1 A n c (bvs key)) (hn : n ≤ 1000000) (hp : Rd w 1 Ap np cp vs) (hps : Parts w vs bss) (hm : bss.flatten.length ≤ 1000000000) :
    Calls Try.prog 16 #[.slice A n c, .slice Ap np cp] w fun e w' => ∃ A' c', e = .returned (.slice A' 32 c') ∧ Seg w' w.heap.size 1 A' 32 c' (bvs (macB key bss.flatten)) ∧ Below w.heap.size w w' := by
  have HR := Lib.hid hr
  have HP := Lib.hid hp
  have HPS := Lib.hid hps
  have hnp : np < 9223372036854775808 := by have := hp.cap; have := hp.max; simp only [maxLen] at this; omega
  have HL : Hid (np = bss.length) := Lib.hid (by have := hp.len; have := hps.1; omega)
  clear hr hp hps
  go_enter Try.func16, Try.ntmps16
  go_wp2_with fail
  refine (new_any w).mono ?_
  rintro e w1 ⟨rfl, hw1⟩
  have HLV1 : Hid (Live w1 w.heap.size none []) := Lib.hid (by rw [hw1]; exact Live.new w)
  have HB1 : Hid (Below w.heap.size w w1) := Lib.hid (by rw [hw1]; exact (Below.refl _ _).alloc (Nat.le_refl _) _)
  clear hw1
  have HPD : Hid (Calls Try.prog 35 #[.slice A n c, .int .u8 54] w1 fun e w' => ∃ g, e = .returned (.slice (some ⟨g, 0, none⟩) 64 64) ∧ BRel w1 g (padK key 54) w') := Lib.hid (pad_any A n c key 54 w1 (HR.out.below HB1.out) hn)
  go_wp2_with fail
  refine HPD.out.mono ?_
  rintro e w2 ⟨g, rfl, hbr⟩
  have HLV2 := Lib.hid (HLV1.out.below hbr.below)
  have HB2 := Lib.hid (HB1.out.trans (hbr.below.mono HB1.out.size))
  have HW := Lib.hid (write_live w.heap.size none [] (padK key 54) (some ⟨g, 0, none⟩) 64 64 w2 HLV2.out (hbr.rd (padK_length _ _) (by simp [maxLen])) (fun _ a ha e => by have := hbr.base; have := HLV1.out.lt; cases ha; simp at e; omega) (by rw [padK_length]; simp))
  rw [List.nil_append] at HW
  clear hbr HLV1 HPD
  go_wp2_with fail
  refine HW.out.mono ?_
  rintro e w3 ⟨rfl, A3, hl3, ht3, _⟩
  have HLV : Hid (Live w3 w.heap.size A3 (padK key 54 ++ (bss.take 0).flatten)) := Lib.hid (by simpa using hl3)
  have HB : Hid (Below w.heap.size w w3) := Lib.hid (HB2.out.trans (ht3.below (fun j _ hj => by rcases hj with rfl | ⟨a, ha, rfl⟩; exact Nat.le_refl _; cases ha) HB2.out.size))
  clear hl3 ht3 HW HLV2 HB2
  go_wp2_with fail
  go_loopw [15] (fun s15 wr => ∃ k : Nat, k ≤ np ∧ s15 = .int .i64 k ∧ ∃ A, Live wr w.heap.size A (padK key 54 ++ (bss.take k).flatten) ∧ Below w.heap.size w wr) (fun s15 _ => np - (intOf s15).toNat)
  case atStart => exact ⟨0, by omega, rfl, A3, HLV.out, HB.out⟩
  case round =>
    obtain ⟨k, hk, rfl, Ah, hlv, hb⟩ := hrel
    have HLV2 := Lib.hid hlv
    have HB2 := Lib.hid hb
    clear hlv hb HLV HB
    by_cases hlt : k < np
    · have hvl : k < vs.length := by have := HP.out.len; omega
      have hbl : k < bss.length := by have := HL.out; omega
      obtain ⟨b', o', hA', hx'⟩ := (HP.out.below HB2.out).at_ (by omega)
      subst hA'
      obtain ⟨Ab, nb, cb, hv, hrb⟩ := HPS.out.2 k vs[k] bss[k] (List.getElem?_eq_getElem hvl) (List.getElem?_eq_getElem hbl)
      have hcell := hx' k vs[k] (List.getElem?_eq_getElem hvl)
      rw [hv] at hcell
      have hfl := flatten_take_le bss (k + 1)
      have hfs := flatten_take_succ bss k _ (List.getElem?_eq_getElem hbl)
      have HW := Lib.hid (write_live w.heap.size Ah _ bss[k] Ab nb cb wr HLV2.out (hrb.below HB2.out) (fun h0 a ha e => by have := hrb.lt h0 (by decide) a ha; omega) (by
        rw [hfs, List.length_append] at hfl
        rw [List.length_append, padK_length]; omega))
      rw [List.append_assoc, ← hfs] at HW
      clear hx' hrb hv hfl hfs
      go_wp2_with (refine HW.out.mono ?_; rintro e wn ⟨rfl, A2, hl2, ht2, _⟩; have HLN := Lib.hid hl2; have HBN : Hid (Below w.heap.size w wn) := Lib.hid (HB2.out.trans (ht2.below (fun j _ hj => by rcases hj with rfl | ⟨a, ha, rfl⟩; exact Nat.le_refl _; exact Nat.le_of_lt (HLV2.out.own a ha).1) HB2.out.size)); clear hl2 ht2)
      case roundEnd =>
        exact ⟨⟨k + 1, by omega, by push_cast; rfl, A2, HLN.out, HBN.out⟩, by simp [intOf]; omega⟩
    · obtain rfl : k = np := by omega
      rw [HL.out, List.take_length] at HLV2
      have HPD : Hid (Calls Try.prog 35 #[.slice A n c, .int .u8 92] wr fun e w' => ∃ g, e = .returned (.slice (some ⟨g, 0, none⟩) 64 64) ∧ BRel wr g (padK key 92) w') := Lib.hid (pad_any A n c key 92 wr (HR.out.below HB2.out) hn)
      go_wp2_with fail
      refine HPD.out.mono ?_
      rintro e w4 ⟨g2, rfl, hbr⟩
      have HLV4 := Lib.hid (HLV2.out.below hbr.below)
      have HB4 := Lib.hid (HB2.out.trans (hbr.below.mono HB2.out.size))
      have HRP := Lib.hid (hbr.rd (padK_length _ _) (show 64 ≤ maxLen by simp [maxLen]))
      clear hbr HPD
      have HSU := Lib.hid (hsum_live w.heap.size Ah _ w4 HLV4.out (by rw [List.length_append, padK_length]; omega))
      go_wp2_with fail
      refine HSU.out.mono ?_
      rintro e w5 ⟨A5, c5, rfl, hs5, hb5⟩
      have HB5 := Lib.hid (HB4.out.trans (hb5.mono HB4.out.size))
      have HRP5 := Lib.hid (HRP.out.below hb5)
      have HS5 := Lib.hid hs5.rd
      clear hs5 hb5 HSU
      have HSS := Lib.hid (sum_any (some ⟨w5.heap.size, 0, none⟩) 2 2 [.slice (some ⟨g2, 0, none⟩) 64 64, .slice A5 32 c5] _ (w5.alloc (.cells #[.slice (some ⟨g2, 0, none⟩) 64 64, .slice A5 32 c5] 22)) (rd_lit w5 #[.slice (some ⟨g2, 0, none⟩) 64 64, .slice A5 32 c5] 22 1 2 rfl (by simp [maxLen]))
        (Parts.two (HRP5.out.below ((Below.refl _ _).alloc (Nat.le_refl _) _)) (HS5.out.below ((Below.refl _ _).alloc (Nat.le_refl _) _))) (by simp [padK_length, sumB_length]))
      go_wp2_with fail
      refine HSS.out.mono ?_
      rintro e w6 ⟨A6, c6, rfl, hs6, hb6⟩
      go_wp2_with fail
      go_ret
      have HB6 := HB5.out.trans (((Below.refl w5.heap.size w5).alloc (Nat.le_refl _) (.cells #[.slice (some ⟨g2, 0, none⟩) 64 64, .slice A5 32 c5] 22)).mono HB5.out.size)
      refine ⟨A6, c6, rfl, ?_, HB6.trans (hb6.mono HB6.size)⟩
      have h := hs6.mono HB6.size
      rw [show [padK key 92, sumB (padK key 54 ++ bss.flatten)].flatten = padK key 92 ++ sumB (padK key 54 ++ bss.flatten) by simp] at h
      exact h
end Go.Proofs.Ytdekfobcdmlelaa
