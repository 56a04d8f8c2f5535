/- The walk of locketlaw01.ShaBytes; two hashes that are apart. -/
import Derived.Test.YtpcncogmhnncpaaSha8
namespace Go.Proofs.Ytpcncogmhnncpaa
open Go.RowKit
set_option linter.unusedSimpArgs false

/-- Two hashes that are apart. -/
structure Two (w0 : World) (g h : Nat) (Ag Ah : Option Addr) (mg mh : List UInt8) (wr : World) : Prop where
  live1 : Live wr g Ag mg
  live2 : Live wr h Ah mh
  ne : g ≠ h
  a1 : ∀ a, Ag = some a → a.block ≠ h
  a2 : ∀ a, Ah = some a → a.block ≠ g
  a3 : ∀ a b, Ag = some a → Ah = some b → a.block ≠ b.block
  below : Below w0.heap.size w0 wr
  base1 : w0.heap.size ≤ g
  base2 : w0.heap.size ≤ h
namespace Two
variable {w0 wr wn : World} {g h : Nat} {Ag Ah A2 : Option Addr} {mg mh m2 : List UInt8}
theorem swap (t : Two w0 g h Ag Ah mg mh wr) : Two w0 h g Ah Ag mh mg wr := ⟨t.live2, t.live1, t.ne.symm, t.a2, t.a1, fun a b e1 e2 e => t.a3 b a e2 e1 e.symm, t.below, t.base2, t.base1⟩
theorem wrote (t : Two w0 g h Ag Ah mg mh wr) (hl : Live wn g A2 m2) (ht : Touch (Own g Ag) wr wn) (ha : ∀ a, A2 = some a → (∃ a0, Ag = some a0 ∧ a0.block = a.block) ∨ wr.heap.size ≤ a.block) : Two w0 g h A2 Ah m2 mh wn := by
  refine ⟨hl, t.live2.touch ht ?_ ?_, t.ne, fun a e1 e => ?_, t.a2, fun a b e1 e2 e => ?_, t.below.trans (ht.below (fun j _ hj => ?_) t.below.size), t.base1, t.base2⟩
  · rintro (e | ⟨a, e1, e2⟩)
    · exact t.ne e.symm
    · exact t.a1 a e1 e2
  · rintro a e1 (e | ⟨b, e2, e3⟩)
    · exact t.a2 a e1 e
    · exact t.a3 b a e2 e1 e3
  · rcases ha a e1 with ⟨a0, h0, h1⟩ | h1
    · exact t.a1 a0 h0 (h1.trans e)
    · have := t.live2.lt; omega
  · rcases ha a e1 with ⟨a0, h0, h1⟩ | h1
    · exact t.a3 a0 b h0 e2 (h1.trans e)
    · have := (t.live2.own b e2).2; omega
  · rcases hj with rfl | ⟨a, ha', rfl⟩
    · exact t.base1
    · have := t.live1.own a ha'; have := t.base1; omega
theorem kept (t : Two w0 g h Ag Ah mg mh wr) {S : Nat → Prop} (ht : Touch S wr wn) (h0 : ∀ j, S j → w0.heap.size ≤ j) (hg : ¬ S g) (hh : ¬ S h) (hag : ∀ a, Ag = some a → ¬ S a.block) (hah : ∀ a, Ah = some a → ¬ S a.block) : Two w0 g h Ag Ah mg mh wn :=
  ⟨t.live1.touch ht hg hag, t.live2.touch ht hh hah, t.ne, t.a1, t.a2, t.a3, t.below.trans (ht.below (fun j _ hj => h0 j hj) t.below.size), t.base1, t.base2⟩
theorem below' (t : Two w0 g h Ag Ah mg mh wr) (hb : Below wr.heap.size wr wn) : Two w0 g h Ag Ah mg mh wn :=
  t.kept (S := fun _ => False) (Touch.of_below hb) (fun _ h => h.elim) id id (fun _ _ => id) (fun _ _ => id)
theorem new (w : World) : Two w w.heap.size (w.heap.size + 1) none none [] [] ((w.alloc (.cells (hCells h0 (.slice none 0 0) 0) 63 (0, 0))).alloc (.cells (hCells h0 (.slice none 0 0) 0) 63 (0, 0))) := by
  refine ⟨(Live.new w).below ((Below.refl _ _).alloc (Nat.le_refl _) _), ?_, by omega, (fun _ e => by cases e), (fun _ e => by cases e), (fun _ _ e => by cases e), ((Below.refl _ _).alloc (Nat.le_refl _) _).alloc (by simp) _, Nat.le_refl _, by omega⟩
  have := Live.new (w.alloc (.cells (hCells h0 (.slice none 0 0) 0) 63 (0, 0)))
  simpa using this
end Two
/-- s[i:j]. -/
theorem Rd.sub {w : World} {b o n c : Nat} {bs : List UInt8} (h : Rd w 1 (some ⟨b, o, none⟩) n c (bvs bs)) {i m : Nat} (hm : i + m ≤ n) : Rd w 1 (some ⟨b, o + i, none⟩) m (c - i) (bvs ((bs.drop i).take m)) := by
  have hl : bs.length = n := by have := h.len; rw [bvs_length] at this; omega
  have hc := h.cap
  have hmx := h.max
  refine ⟨by rw [bvs_length, List.length_take, List.length_drop]; omega, by omega, by omega, (fun e => by cases e), ?_⟩
  by_cases h0 : m = 0
  · exact .inl h0
  · obtain ⟨b', o', hA, hx⟩ := h.at_ (by omega)
    cases hA
    refine .inr ⟨b, o + i, rfl, fun j u hu => ?_⟩
    rw [Nat.add_assoc]
    refine hx (i + j) u ?_
    simp only [bvs, List.getElem?_map, List.getElem?_take, List.getElem?_drop] at hu ⊢
    split at hu
    · exact hu
    · cases hu
/-- s[i:] (at the capacity's end the address stays). -/
theorem Rd.from {w : World} {b o n c : Nat} {bs : List UInt8} (h : Rd w 1 (some ⟨b, o, none⟩) n c (bvs bs)) {i : Nat} (hi : i ≤ n) : Rd w 1 (if c = i then some ⟨b, o, none⟩ else some ⟨b, o + i, none⟩) (n - i) (c - i) (bvs (bs.drop i)) := by
  have hl : bs.length = n := by have := h.len; rw [bvs_length] at this; omega
  have h1 := h.sub (i := i) (m := n - i) (by omega)
  rw [List.take_of_length_le (by rw [List.length_drop]; omega)] at h1
  have hc := h.cap
  by_cases hck : c = i
  · rw [if_pos hck]
    refine ⟨h1.len, h1.cap, h1.max, (fun e => by cases e), .inl (by omega)⟩
  · rw [if_neg hck]; exact h1

set_option maxRecDepth 100000 in
set_option maxHeartbeats 2000000 in
theorem ShaBytes_ok (w : World) (Ab : Option Addr) (n c : Nat) (bs : List UInt8) (at_ : Int) (hr : Rd w 1 Ab n c (bvs bs)) (h0 : 0 ≤ at_) (h63 : at_ < 9223372036854775808) (hn : n ≤ 200) :
    Calls Try.prog 12 #[.slice Ab n c, .int .i64 at_] w (Tells w true) := by
  have HR := Lib.hid hr
  have hl : bs.length = n := by have := hr.len; rw [bvs_length] at this; omega
  clear hr
  have hn' : (n : Int) ≤ 200 := by omega
  go_enter Try.func12, Try.ntmps12
  go_wp2_with fail
  refine (anchor1 w).mono ?_
  rintro e w1 ⟨rfl, hb1⟩
  have HB1 := Lib.hid hb1
  clear hb1
  go_wp2_with fail
  refine (new_any w1).mono ?_
  rintro e w2 ⟨rfl, hw2⟩
  have HW2 := Lib.hid hw2
  clear hw2
  go_wp2_with fail
  refine (new_any w2).mono ?_
  rintro e w3 ⟨rfl, hw3⟩
  have HT0 : Hid (Two w1 w1.heap.size (w1.heap.size + 1) none none [] [] w3) := Lib.hid (by rw [hw3, HW2.out]; exact Two.new w1)
  have hz2 : w2.heap.size = w1.heap.size + 1 := by rw [HW2.out]; simp
  rw [hz2]
  clear hw3 hz2
  go_wp2_with fail
  go_loopw [22] (fun s22 wr => ∃ (k : Nat) (Ag : Option Addr), k ≤ n ∧ s22 = .int .i64 k ∧ Two w1 w1.heap.size (w1.heap.size + 1) Ag none (bs.take k) [] wr) (fun s22 _ => n - (intOf s22).toNat)
  case atStart => exact ⟨0, none, by omega, rfl, by simpa using HT0.out⟩
  case round =>
    obtain ⟨k, Ag, hk, rfl, ht⟩ := hrel
    have HT := Lib.hid ht
    clear ht HT0
    have HBW := Lib.hid (HB1.out.trans (HT.out.below.mono HB1.out.size))
    by_cases hlt : k < n
    · obtain ⟨b, o, rfl, _⟩ := HR.out.at_ (by omega)
      have hc : n ≤ c := HR.out.cap
      have hck : ¬ c = k := by omega
      have hk1 : ((k : Int) + 1) ≤ c := by omega
      have HRS := Lib.hid ((HR.out.sub (i := k) (m := 1) (by omega)).below HBW.out)
      have htk : bs.take k ++ (bs.drop k).take 1 = bs.take (k + 1) := by rw [List.take_add]
      have HTK := Lib.hid htk
      have HWR := Lib.hid (write_live w1.heap.size Ag (bs.take k) ((bs.drop k).take 1) (some ⟨b, o + k, none⟩) 1 (c - k) wr HT.out.live1 HRS.out (fun _ a ha e => by have h1 := HR.out.lt (by omega) (by decide) _ rfl; have := HB1.out.size; cases ha; simp at e h1; omega) (by simp; omega))
      rw [HTK.out] at HWR
      clear htk
      go_wp2_with (refine HWR.out.mono ?_; rintro e wn ⟨rfl, A2, hl2, ht2, ha2⟩; have HTN := Lib.hid (HT.out.wrote hl2 ht2 ha2); clear hl2 ht2 ha2)
      case roundEnd =>
        exact ⟨⟨k + 1, A2, by omega, by push_cast; rfl, HTN.out⟩, by simp [intOf]; omega⟩
    · obtain rfl : k = n := by omega
      obtain ⟨K, hK⟩ : ∃ K : Nat, K = at_.toNat % (k + 1) := ⟨_, rfl⟩
      have hKn : K ≤ k := by have := Nat.mod_lt at_.toNat (show 0 < k + 1 by omega); omega
      have hrem : at_ % ((k : Int) + 1) = (K : Int) := by rw [hK]; have : at_ = (at_.toNat : Int) := by omega
                                                          rw [this]; simp
      have hrem2 : Int.tmod at_ ((k : Int) + 1) = (K : Int) := by rw [Int.tmod_eq_emod_of_nonneg h0]; exact hrem
      clear hK
      have hKi : (K : Int) ≤ k := by omega
      have hKc : K ≤ c := by have := HR.out.cap; omega
      have hKci : (K : Int) ≤ c := by omega
      have HTKE : Hid (bs.take k = bs) := Lib.hid (List.take_of_length_le (by omega))
      have HTC := HT
      rw [HTKE.out] at HTC
      have HLEN : Hid (bs.length ≤ 1099511627776) := Lib.hid (by omega)
      have HLE2 : Hid (K + (k - K) = k) := Lib.hid (by omega)
      have hkc : k ≤ c := HR.out.cap
      cases Ab with
      | none =>
        have hc0 : c = 0 := HR.out.nil rfl
        obtain rfl : k = 0 := by omega
        obtain rfl : K = 0 := by omega
        subst hc0
        have HBS0 : Hid (bs = []) := Lib.hid (List.eq_nil_of_length_eq_zero (by omega))
        have HWA := Lib.hid (write_live (w1.heap.size + 1) none [] [] none 0 0 wr HTC.out.live2 (Seg.nil wr 0 1).rd (fun h => by omega) (by simp))
        go_wp2_with (first | (refine HWA.out.mono ?_; rintro e wm ⟨rfl, A2, hl2, ht2, ha2⟩; have HTM := Lib.hid (HTC.out.swap.wrote hl2 ht2 ha2); clear hl2 ht2 ha2 HWA; have HWB := Lib.hid (write_live (w1.heap.size + 1) A2 ([] ++ []) [] none 0 0 wm HTM.out.live1 (Seg.nil wm 0 1).rd (fun h => by omega) (by simp))) | (refine HWB.out.mono ?_; rintro e wn ⟨rfl, A3, hl2, ht2, ha2⟩; have HTN := Lib.hid (HTM.out.wrote hl2 ht2 ha2).swap; clear hl2 ht2 ha2 HWB))
        rw [show ([] : List UInt8) ++ [] ++ [] = bs by rw [HBS0.out]; rfl] at HTN
        have HRN := Lib.hid (HR.out.below (HB1.out.trans (HTN.out.below.mono HB1.out.size)))
        have HBS : Hid (w.heap.size ≤ wn.heap.size) := Lib.hid (HB1.out.trans (HTN.out.below.mono HB1.out.size)).size
        refine wp_region_held_drew (S := fun w' => Below wn.heap.size wn w') (by kernel_rfl) ((Below.refl _ _).drew) (fun hHeld => ?_)
        refine held_yes (i := 0) (v := ?_) rfl (by kernel_rfl) (by kernel_rfl) (by kernel_rfl) (fun _ _ _ h => h) (by rfl) (fun w hSw => ?_) hHeld ?_
        rotate_left
        · go_simp; try with_reducible rfl
        simp only [List.setIfInBounds_toArray, List.set_cons_zero, List.set_cons_succ]
        refine held_yes (i := 3) (v := ?_) rfl (by kernel_rfl) (by kernel_rfl) (by kernel_rfl) (fun _ _ _ h => h) (by rfl) (fun w hSw => ?_) hHeld ?_
        rotate_left
        · go_simp; try with_reducible rfl
        simp only [List.setIfInBounds_toArray, List.set_cons_zero, List.set_cons_succ]
        refine wpAnyH_ready (rs := [1, 4]) (by kernel_rfl) (by simp) (AllReadyH.cons rfl (fun K hK => ?_) (AllReadyH.cons rfl (fun K hK => ?_) AllReadyH.nil))
        · skip
          rw [if_pos (by rfl)]
          go_simp
          refine (hsum_live w1.heap.size Ag _ wn.drew (HTN.out.live1.below ((Below.refl wn.heap.size wn).drew)) HLEN.out).mono ?_
          rintro e wq1 ⟨A1, c1, rfl, hs1, hb1⟩
          have HS1 := Lib.hid hs1
          have HBQ1 := Lib.hid hb1
          clear hs1 hb1
          go_wp2_with fail
          refine hK.out _ _ ((Below.refl wn.heap.size wn).drew.trans HBQ1.out) (fun _ => ?_)
          clear hK K
          try simp only [Act.put, List.setIfInBounds_toArray, List.set_cons_zero, List.set_cons_succ]
          refine wpAnyH_mono (S' := fun w' => Below wq1.heap.size wq1 w') (fun w' h => ((Below.refl wn.heap.size wn).drew.trans HBQ1.out).trans (h.mono (by have := HBQ1.out.size; first | exact this | simpa using this))) ?_
          have hHeld : Below wq1.heap.size wq1 wq1 := Below.refl _ _
          refine held_yes (i := 2) (v := ?_) rfl (by kernel_rfl) (by kernel_rfl) (by kernel_rfl) (fun _ _ _ h => h) (by rfl) (fun w hSw => ?_) hHeld ?_
          rotate_left
          · have kc := str_of (HS1.out.rd.below hSw); go_simp; try with_reducible rfl
          simp only [List.setIfInBounds_toArray, List.set_cons_zero, List.set_cons_succ]
          refine held_only (i := 4) (by kernel_rfl) rfl (fun K hK => ?_)
          rw [if_pos (by rfl)]
          go_wp2_with fail
          refine world_at (F := fun wx => Below wq1.heap.size wq1 wx ∧ Rd wx 1 (some ⟨wq1.heap.size, 0, none⟩) 1 1 [.slice none 0 0]) ⟨(Below.refl _ _).alloc (Nat.le_refl _) _, rd_lit wq1 #[.slice none 0 0] _ 1 1 rfl (by simp [maxLen])⟩ (fun wq2 HF => ?_)
          have HBQ2 := Lib.hid HF.out.1
          have HR4 := Lib.hid HF.out.2
          clear HF
          refine hK.out _ _ HBQ2.out (fun _ => ?_)
          clear hK K
          try simp only [Act.put, List.setIfInBounds_toArray, List.set_cons_zero, List.set_cons_succ]
          refine wpAnyH_mono (S' := fun w' => Below wq2.heap.size wq2 w') (fun w' h => HBQ2.out.trans (h.mono (by have := HBQ2.out.size; first | exact this | simpa using this))) ?_
          have hHeld : Below wq2.heap.size wq2 wq2 := Below.refl _ _
          refine held_only (i := 5) (by kernel_rfl) rfl (fun K hK => ?_)
          rw [if_pos (by rfl)]
          go_simp
          refine (sum_one _ _ _ _ _ _ wq2 (HR4.out.below (Below.refl _ _)) (HRN.out.below ((((Below.refl wn.heap.size wn).drew).trans (HBQ1.out.mono ((Below.refl wn.heap.size wn).drew).size)).trans (HBQ2.out.mono (((Below.refl wn.heap.size wn).drew).trans (HBQ1.out.mono ((Below.refl wn.heap.size wn).drew).size)).size))) HLEN.out).mono ?_
          rintro e wq3 ⟨A5, c5, rfl, hs5, hb5⟩
          have HS5 := Lib.hid hs5
          have HBQ3 := Lib.hid hb5
          clear hs5 hb5
          go_wp2_with fail
          refine hK.out _ _ HBQ3.out (fun _ => ?_)
          clear hK K
          try simp only [Act.put, List.setIfInBounds_toArray, List.set_cons_zero, List.set_cons_succ]
          refine wpAnyH_mono (S' := fun w' => Below wq3.heap.size wq3 w') (fun w' h => HBQ3.out.trans (h.mono (by have := HBQ3.out.size; first | exact this | simpa using this))) ?_
          have hHeld : Below wq3.heap.size wq3 wq3 := Below.refl _ _
          refine held_yes (i := 6) (v := ?_) rfl (by kernel_rfl) (by kernel_rfl) (by kernel_rfl) (fun _ _ _ h => h) (by rfl) (fun w hSw => ?_) hHeld ?_
          rotate_left
          · have kc := str_of (HS5.out.rd.below hSw); go_simp; try with_reducible rfl
          simp only [List.setIfInBounds_toArray, List.set_cons_zero, List.set_cons_succ]
          refine held_yes (i := 7) (v := ?_) rfl (by kernel_rfl) (by kernel_rfl) (by kernel_rfl) (fun _ _ _ h => h) (by rfl) (fun w hSw => ?_) hHeld ?_
          rotate_left
          · go_simp; try with_reducible rfl
          simp only [List.setIfInBounds_toArray, List.set_cons_zero, List.set_cons_succ]
          refine held_yes (i := 8) (v := ?_) rfl (by kernel_rfl) (by kernel_rfl) (by kernel_rfl) (fun _ _ _ h => h) (by rfl) (fun w hSw => ?_) hHeld ?_
          rotate_left
          · go_simp; try with_reducible rfl
          simp only [List.setIfInBounds_toArray, List.set_cons_zero, List.set_cons_succ]
          refine held_yes (i := 9) (v := ?_) rfl (by kernel_rfl) (by kernel_rfl) (by kernel_rfl) (fun _ _ _ h => h) (by rfl) (fun w hSw => ?_) hHeld ?_
          rotate_left
          · go_simp; try with_reducible rfl
          simp only [List.setIfInBounds_toArray, List.set_cons_zero, List.set_cons_succ]
          refine held_yes (i := 12) (v := ?_) rfl (by kernel_rfl) (by kernel_rfl) (by kernel_rfl) (fun _ _ _ h => h) (by rfl) (fun w hSw => ?_) hHeld ?_
          rotate_left
          · go_simp; try with_reducible rfl
          simp only [List.setIfInBounds_toArray, List.set_cons_zero, List.set_cons_succ]
          refine wpAnyH_ready (rs := [10, 13]) (by kernel_rfl) (by simp) (AllReadyH.cons rfl (fun K hK => ?_) (AllReadyH.cons rfl (fun K hK => ?_) AllReadyH.nil))
          · skip
            rw [if_pos (by rfl)]
            go_simp
            refine (hsum_live (w1.heap.size + 1) A3 _ wq3 (HTN.out.live2.below (((((Below.refl wn.heap.size wn).drew).trans (HBQ1.out.mono ((Below.refl wn.heap.size wn).drew).size)).trans (HBQ2.out.mono (((Below.refl wn.heap.size wn).drew).trans (HBQ1.out.mono ((Below.refl wn.heap.size wn).drew).size)).size)).trans (HBQ3.out.mono ((((Below.refl wn.heap.size wn).drew).trans (HBQ1.out.mono ((Below.refl wn.heap.size wn).drew).size)).trans (HBQ2.out.mono (((Below.refl wn.heap.size wn).drew).trans (HBQ1.out.mono ((Below.refl wn.heap.size wn).drew).size)).size)).size))) HLEN.out).mono ?_
            rintro e wq4 ⟨A10, c10, rfl, hs10, hb10⟩
            have HS10 := Lib.hid hs10
            have HBQ4 := Lib.hid hb10
            clear hs10 hb10
            go_wp2_with fail
            refine hK.out _ _ HBQ4.out (fun _ => ?_)
            clear hK K
            try simp only [Act.put, List.setIfInBounds_toArray, List.set_cons_zero, List.set_cons_succ]
            refine wpAnyH_mono (S' := fun w' => Below wq4.heap.size wq4 w') (fun w' h => HBQ4.out.trans (h.mono (by have := HBQ4.out.size; first | exact this | simpa using this))) ?_
            have hHeld : Below wq4.heap.size wq4 wq4 := Below.refl _ _
            refine held_yes (i := 11) (v := ?_) rfl (by kernel_rfl) (by kernel_rfl) (by kernel_rfl) (fun _ _ _ h => h) (by rfl) (fun w hSw => ?_) hHeld ?_
            rotate_left
            · have kc := str_of (HS10.out.rd.below hSw); go_simp; try with_reducible rfl
            simp only [List.setIfInBounds_toArray, List.set_cons_zero, List.set_cons_succ]
            refine held_only (i := 13) (by kernel_rfl) rfl (fun K hK => ?_)
            rw [if_pos (by rfl)]
            go_wp2_with fail
            refine world_at (F := fun wx => Below wq4.heap.size wq4 wx ∧ Rd wx 1 (some ⟨wq4.heap.size, 0, none⟩) 1 1 [.slice none 0 0]) ⟨(Below.refl _ _).alloc (Nat.le_refl _) _, rd_lit wq4 #[.slice none 0 0] _ 1 1 rfl (by simp [maxLen])⟩ (fun wq5 HF => ?_)
            have HBQ5 := Lib.hid HF.out.1
            have HR13 := Lib.hid HF.out.2
            clear HF
            refine hK.out _ _ HBQ5.out (fun _ => ?_)
            clear hK K
            try simp only [Act.put, List.setIfInBounds_toArray, List.set_cons_zero, List.set_cons_succ]
            refine wpAnyH_mono (S' := fun w' => Below wq5.heap.size wq5 w') (fun w' h => HBQ5.out.trans (h.mono (by have := HBQ5.out.size; first | exact this | simpa using this))) ?_
            have hHeld : Below wq5.heap.size wq5 wq5 := Below.refl _ _
            refine held_only (i := 14) (by kernel_rfl) rfl (fun K hK => ?_)
            rw [if_pos (by rfl)]
            go_simp
            refine (sum_one _ _ _ _ _ _ wq5 (HR13.out.below (Below.refl _ _)) (HRN.out.below (((((((Below.refl wn.heap.size wn).drew).trans (HBQ1.out.mono ((Below.refl wn.heap.size wn).drew).size)).trans (HBQ2.out.mono (((Below.refl wn.heap.size wn).drew).trans (HBQ1.out.mono ((Below.refl wn.heap.size wn).drew).size)).size)).trans (HBQ3.out.mono ((((Below.refl wn.heap.size wn).drew).trans (HBQ1.out.mono ((Below.refl wn.heap.size wn).drew).size)).trans (HBQ2.out.mono (((Below.refl wn.heap.size wn).drew).trans (HBQ1.out.mono ((Below.refl wn.heap.size wn).drew).size)).size)).size)).trans (HBQ4.out.mono (((((Below.refl wn.heap.size wn).drew).trans (HBQ1.out.mono ((Below.refl wn.heap.size wn).drew).size)).trans (HBQ2.out.mono (((Below.refl wn.heap.size wn).drew).trans (HBQ1.out.mono ((Below.refl wn.heap.size wn).drew).size)).size)).trans (HBQ3.out.mono ((((Below.refl wn.heap.size wn).drew).trans (HBQ1.out.mono ((Below.refl wn.heap.size wn).drew).size)).trans (HBQ2.out.mono (((Below.refl wn.heap.size wn).drew).trans (HBQ1.out.mono ((Below.refl wn.heap.size wn).drew).size)).size)).size)).size)).trans (HBQ5.out.mono ((((((Below.refl wn.heap.size wn).drew).trans (HBQ1.out.mono ((Below.refl wn.heap.size wn).drew).size)).trans (HBQ2.out.mono (((Below.refl wn.heap.size wn).drew).trans (HBQ1.out.mono ((Below.refl wn.heap.size wn).drew).size)).size)).trans (HBQ3.out.mono ((((Below.refl wn.heap.size wn).drew).trans (HBQ1.out.mono ((Below.refl wn.heap.size wn).drew).size)).trans (HBQ2.out.mono (((Below.refl wn.heap.size wn).drew).trans (HBQ1.out.mono ((Below.refl wn.heap.size wn).drew).size)).size)).size)).trans (HBQ4.out.mono (((((Below.refl wn.heap.size wn).drew).trans (HBQ1.out.mono ((Below.refl wn.heap.size wn).drew).size)).trans (HBQ2.out.mono (((Below.refl wn.heap.size wn).drew).trans (HBQ1.out.mono ((Below.refl wn.heap.size wn).drew).size)).size)).trans (HBQ3.out.mono ((((Below.refl wn.heap.size wn).drew).trans (HBQ1.out.mono ((Below.refl wn.heap.size wn).drew).size)).trans (HBQ2.out.mono (((Below.refl wn.heap.size wn).drew).trans (HBQ1.out.mono ((Below.refl wn.heap.size wn).drew).size)).size)).size)).size)).size))) HLEN.out).mono ?_
            rintro e wq6 ⟨A14, c14, rfl, hs14, hb14⟩
            have HS14 := Lib.hid hs14
            have HBQ6 := Lib.hid hb14
            clear hs14 hb14
            go_wp2_with fail
            refine hK.out _ _ HBQ6.out (fun _ => ?_)
            clear hK K
            try simp only [Act.put, List.setIfInBounds_toArray, List.set_cons_zero, List.set_cons_succ]
            refine wpAnyH_mono (S' := fun w' => Below wq6.heap.size wq6 w') (fun w' h => HBQ6.out.trans (h.mono (by have := HBQ6.out.size; first | exact this | simpa using this))) ?_
            have hHeld : Below wq6.heap.size wq6 wq6 := Below.refl _ _
            refine held_yes (i := 15) (v := ?_) rfl (by kernel_rfl) (by kernel_rfl) (by kernel_rfl) (fun _ _ _ h => h) (by rfl) (fun w hSw => ?_) hHeld ?_
            rotate_left
            · have kc := str_of (HS14.out.rd.below hSw); go_simp; try with_reducible rfl
            simp only [List.setIfInBounds_toArray, List.set_cons_zero, List.set_cons_succ]
            refine held_yes (i := 16) (v := ?_) rfl (by kernel_rfl) (by kernel_rfl) (by kernel_rfl) (fun _ _ _ h => h) (by rfl) (fun w hSw => ?_) hHeld ?_
            rotate_left
            · go_simp; try with_reducible rfl
            simp only [List.setIfInBounds_toArray, List.set_cons_zero, List.set_cons_succ]
            refine held_yes (i := 17) (v := ?_) rfl (by kernel_rfl) (by kernel_rfl) (by kernel_rfl) (fun _ _ _ h => h) (by rfl) (fun w hSw => ?_) hHeld ?_
            rotate_left
            · go_simp; try with_reducible rfl
            simp only [List.setIfInBounds_toArray, List.set_cons_zero, List.set_cons_succ]
            refine held_yes (i := 18) (v := ?_) rfl (by kernel_rfl) (by kernel_rfl) (by kernel_rfl) (fun _ _ _ h => h) (by rfl) (fun w hSw => ?_) hHeld ?_
            rotate_left
            · go_simp; try with_reducible rfl
            simp only [List.setIfInBounds_toArray, List.set_cons_zero, List.set_cons_succ]
            refine wpAnyH_done (by kernel_rfl) ?_ _
            go_wp2_with fail
            go_ret
            exact ⟨rfl, ((HB1.out.trans (HTN.out.below.mono HB1.out.size)).trans (((((((((Below.refl wn.heap.size wn).drew).trans (HBQ1.out.mono ((Below.refl wn.heap.size wn).drew).size)).trans (HBQ2.out.mono (((Below.refl wn.heap.size wn).drew).trans (HBQ1.out.mono ((Below.refl wn.heap.size wn).drew).size)).size)).trans (HBQ3.out.mono ((((Below.refl wn.heap.size wn).drew).trans (HBQ1.out.mono ((Below.refl wn.heap.size wn).drew).size)).trans (HBQ2.out.mono (((Below.refl wn.heap.size wn).drew).trans (HBQ1.out.mono ((Below.refl wn.heap.size wn).drew).size)).size)).size)).trans (HBQ4.out.mono (((((Below.refl wn.heap.size wn).drew).trans (HBQ1.out.mono ((Below.refl wn.heap.size wn).drew).size)).trans (HBQ2.out.mono (((Below.refl wn.heap.size wn).drew).trans (HBQ1.out.mono ((Below.refl wn.heap.size wn).drew).size)).size)).trans (HBQ3.out.mono ((((Below.refl wn.heap.size wn).drew).trans (HBQ1.out.mono ((Below.refl wn.heap.size wn).drew).size)).trans (HBQ2.out.mono (((Below.refl wn.heap.size wn).drew).trans (HBQ1.out.mono ((Below.refl wn.heap.size wn).drew).size)).size)).size)).size)).trans (HBQ5.out.mono ((((((Below.refl wn.heap.size wn).drew).trans (HBQ1.out.mono ((Below.refl wn.heap.size wn).drew).size)).trans (HBQ2.out.mono (((Below.refl wn.heap.size wn).drew).trans (HBQ1.out.mono ((Below.refl wn.heap.size wn).drew).size)).size)).trans (HBQ3.out.mono ((((Below.refl wn.heap.size wn).drew).trans (HBQ1.out.mono ((Below.refl wn.heap.size wn).drew).size)).trans (HBQ2.out.mono (((Below.refl wn.heap.size wn).drew).trans (HBQ1.out.mono ((Below.refl wn.heap.size wn).drew).size)).size)).size)).trans (HBQ4.out.mono (((((Below.refl wn.heap.size wn).drew).trans (HBQ1.out.mono ((Below.refl wn.heap.size wn).drew).size)).trans (HBQ2.out.mono (((Below.refl wn.heap.size wn).drew).trans (HBQ1.out.mono ((Below.refl wn.heap.size wn).drew).size)).size)).trans (HBQ3.out.mono ((((Below.refl wn.heap.size wn).drew).trans (HBQ1.out.mono ((Below.refl wn.heap.size wn).drew).size)).trans (HBQ2.out.mono (((Below.refl wn.heap.size wn).drew).trans (HBQ1.out.mono ((Below.refl wn.heap.size wn).drew).size)).size)).size)).size)).size)).trans (HBQ6.out.mono (((((((Below.refl wn.heap.size wn).drew).trans (HBQ1.out.mono ((Below.refl wn.heap.size wn).drew).size)).trans (HBQ2.out.mono (((Below.refl wn.heap.size wn).drew).trans (HBQ1.out.mono ((Below.refl wn.heap.size wn).drew).size)).size)).trans (HBQ3.out.mono ((((Below.refl wn.heap.size wn).drew).trans (HBQ1.out.mono ((Below.refl wn.heap.size wn).drew).size)).trans (HBQ2.out.mono (((Below.refl wn.heap.size wn).drew).trans (HBQ1.out.mono ((Below.refl wn.heap.size wn).drew).size)).size)).size)).trans (HBQ4.out.mono (((((Below.refl wn.heap.size wn).drew).trans (HBQ1.out.mono ((Below.refl wn.heap.size wn).drew).size)).trans (HBQ2.out.mono (((Below.refl wn.heap.size wn).drew).trans (HBQ1.out.mono ((Below.refl wn.heap.size wn).drew).size)).size)).trans (HBQ3.out.mono ((((Below.refl wn.heap.size wn).drew).trans (HBQ1.out.mono ((Below.refl wn.heap.size wn).drew).size)).trans (HBQ2.out.mono (((Below.refl wn.heap.size wn).drew).trans (HBQ1.out.mono ((Below.refl wn.heap.size wn).drew).size)).size)).size)).size)).trans (HBQ5.out.mono ((((((Below.refl wn.heap.size wn).drew).trans (HBQ1.out.mono ((Below.refl wn.heap.size wn).drew).size)).trans (HBQ2.out.mono (((Below.refl wn.heap.size wn).drew).trans (HBQ1.out.mono ((Below.refl wn.heap.size wn).drew).size)).size)).trans (HBQ3.out.mono ((((Below.refl wn.heap.size wn).drew).trans (HBQ1.out.mono ((Below.refl wn.heap.size wn).drew).size)).trans (HBQ2.out.mono (((Below.refl wn.heap.size wn).drew).trans (HBQ1.out.mono ((Below.refl wn.heap.size wn).drew).size)).size)).size)).trans (HBQ4.out.mono (((((Below.refl wn.heap.size wn).drew).trans (HBQ1.out.mono ((Below.refl wn.heap.size wn).drew).size)).trans (HBQ2.out.mono (((Below.refl wn.heap.size wn).drew).trans (HBQ1.out.mono ((Below.refl wn.heap.size wn).drew).size)).size)).trans (HBQ3.out.mono ((((Below.refl wn.heap.size wn).drew).trans (HBQ1.out.mono ((Below.refl wn.heap.size wn).drew).size)).trans (HBQ2.out.mono (((Below.refl wn.heap.size wn).drew).trans (HBQ1.out.mono ((Below.refl wn.heap.size wn).drew).size)).size)).size)).size)).size)).size)).mono HBS.out))⟩
          · skip
            rw [if_pos (by rfl)]
            go_wp2_with fail
            refine world_at (F := fun wx => Below wq3.heap.size wq3 wx ∧ Rd wx 1 (some ⟨wq3.heap.size, 0, none⟩) 1 1 [.slice none 0 0]) ⟨(Below.refl _ _).alloc (Nat.le_refl _) _, rd_lit wq3 #[.slice none 0 0] _ 1 1 rfl (by simp [maxLen])⟩ (fun wq7 HF => ?_)
            have HBQ7 := Lib.hid HF.out.1
            have HR13 := Lib.hid HF.out.2
            clear HF
            refine hK.out _ _ HBQ7.out (fun _ => ?_)
            clear hK K
            try simp only [Act.put, List.setIfInBounds_toArray, List.set_cons_zero, List.set_cons_succ]
            refine wpAnyH_mono (S' := fun w' => Below wq7.heap.size wq7 w') (fun w' h => HBQ7.out.trans (h.mono (by have := HBQ7.out.size; first | exact this | simpa using this))) ?_
            have hHeld : Below wq7.heap.size wq7 wq7 := Below.refl _ _
            refine held_only (i := 10) (by kernel_rfl) rfl (fun K hK => ?_)
            rw [if_pos (by rfl)]
            go_simp
            refine (hsum_live (w1.heap.size + 1) A3 _ wq7 (HTN.out.live2.below ((((((Below.refl wn.heap.size wn).drew).trans (HBQ1.out.mono ((Below.refl wn.heap.size wn).drew).size)).trans (HBQ2.out.mono (((Below.refl wn.heap.size wn).drew).trans (HBQ1.out.mono ((Below.refl wn.heap.size wn).drew).size)).size)).trans (HBQ3.out.mono ((((Below.refl wn.heap.size wn).drew).trans (HBQ1.out.mono ((Below.refl wn.heap.size wn).drew).size)).trans (HBQ2.out.mono (((Below.refl wn.heap.size wn).drew).trans (HBQ1.out.mono ((Below.refl wn.heap.size wn).drew).size)).size)).size)).trans (HBQ7.out.mono (((((Below.refl wn.heap.size wn).drew).trans (HBQ1.out.mono ((Below.refl wn.heap.size wn).drew).size)).trans (HBQ2.out.mono (((Below.refl wn.heap.size wn).drew).trans (HBQ1.out.mono ((Below.refl wn.heap.size wn).drew).size)).size)).trans (HBQ3.out.mono ((((Below.refl wn.heap.size wn).drew).trans (HBQ1.out.mono ((Below.refl wn.heap.size wn).drew).size)).trans (HBQ2.out.mono (((Below.refl wn.heap.size wn).drew).trans (HBQ1.out.mono ((Below.refl wn.heap.size wn).drew).size)).size)).size)).size))) HLEN.out).mono ?_
            rintro e wq8 ⟨A10, c10, rfl, hs10, hb10⟩
            have HS10 := Lib.hid hs10
            have HBQ8 := Lib.hid hb10
            clear hs10 hb10
            go_wp2_with fail
            refine hK.out _ _ HBQ8.out (fun _ => ?_)
            clear hK K
            try simp only [Act.put, List.setIfInBounds_toArray, List.set_cons_zero, List.set_cons_succ]
            refine wpAnyH_mono (S' := fun w' => Below wq8.heap.size wq8 w') (fun w' h => HBQ8.out.trans (h.mono (by have := HBQ8.out.size; first | exact this | simpa using this))) ?_
            have hHeld : Below wq8.heap.size wq8 wq8 := Below.refl _ _
            refine held_yes (i := 11) (v := ?_) rfl (by kernel_rfl) (by kernel_rfl) (by kernel_rfl) (fun _ _ _ h => h) (by rfl) (fun w hSw => ?_) hHeld ?_
            rotate_left
            · have kc := str_of (HS10.out.rd.below hSw); go_simp; try with_reducible rfl
            simp only [List.setIfInBounds_toArray, List.set_cons_zero, List.set_cons_succ]
            refine held_only (i := 14) (by kernel_rfl) rfl (fun K hK => ?_)
            rw [if_pos (by rfl)]
            go_simp
            refine (sum_one _ _ _ _ _ _ wq8 (HR13.out.below HBQ8.out) (HRN.out.below (((((((Below.refl wn.heap.size wn).drew).trans (HBQ1.out.mono ((Below.refl wn.heap.size wn).drew).size)).trans (HBQ2.out.mono (((Below.refl wn.heap.size wn).drew).trans (HBQ1.out.mono ((Below.refl wn.heap.size wn).drew).size)).size)).trans (HBQ3.out.mono ((((Below.refl wn.heap.size wn).drew).trans (HBQ1.out.mono ((Below.refl wn.heap.size wn).drew).size)).trans (HBQ2.out.mono (((Below.refl wn.heap.size wn).drew).trans (HBQ1.out.mono ((Below.refl wn.heap.size wn).drew).size)).size)).size)).trans (HBQ7.out.mono (((((Below.refl wn.heap.size wn).drew).trans (HBQ1.out.mono ((Below.refl wn.heap.size wn).drew).size)).trans (HBQ2.out.mono (((Below.refl wn.heap.size wn).drew).trans (HBQ1.out.mono ((Below.refl wn.heap.size wn).drew).size)).size)).trans (HBQ3.out.mono ((((Below.refl wn.heap.size wn).drew).trans (HBQ1.out.mono ((Below.refl wn.heap.size wn).drew).size)).trans (HBQ2.out.mono (((Below.refl wn.heap.size wn).drew).trans (HBQ1.out.mono ((Below.refl wn.heap.size wn).drew).size)).size)).size)).size)).trans (HBQ8.out.mono ((((((Below.refl wn.heap.size wn).drew).trans (HBQ1.out.mono ((Below.refl wn.heap.size wn).drew).size)).trans (HBQ2.out.mono (((Below.refl wn.heap.size wn).drew).trans (HBQ1.out.mono ((Below.refl wn.heap.size wn).drew).size)).size)).trans (HBQ3.out.mono ((((Below.refl wn.heap.size wn).drew).trans (HBQ1.out.mono ((Below.refl wn.heap.size wn).drew).size)).trans (HBQ2.out.mono (((Below.refl wn.heap.size wn).drew).trans (HBQ1.out.mono ((Below.refl wn.heap.size wn).drew).size)).size)).size)).trans (HBQ7.out.mono (((((Below.refl wn.heap.size wn).drew).trans (HBQ1.out.mono ((Below.refl wn.heap.size wn).drew).size)).trans (HBQ2.out.mono (((Below.refl wn.heap.size wn).drew).trans (HBQ1.out.mono ((Below.refl wn.heap.size wn).drew).size)).size)).trans (HBQ3.out.mono ((((Below.refl wn.heap.size wn).drew).trans (HBQ1.out.mono ((Below.refl wn.heap.size wn).drew).size)).trans (HBQ2.out.mono (((Below.refl wn.heap.size wn).drew).trans (HBQ1.out.mono ((Below.refl wn.heap.size wn).drew).size)).size)).size)).size)).size))) HLEN.out).mono ?_
            rintro e wq9 ⟨A14, c14, rfl, hs14, hb14⟩
            have HS14 := Lib.hid hs14
            have HBQ9 := Lib.hid hb14
            clear hs14 hb14
            go_wp2_with fail
            refine hK.out _ _ HBQ9.out (fun _ => ?_)
            clear hK K
            try simp only [Act.put, List.setIfInBounds_toArray, List.set_cons_zero, List.set_cons_succ]
            refine wpAnyH_mono (S' := fun w' => Below wq9.heap.size wq9 w') (fun w' h => HBQ9.out.trans (h.mono (by have := HBQ9.out.size; first | exact this | simpa using this))) ?_
            have hHeld : Below wq9.heap.size wq9 wq9 := Below.refl _ _
            refine held_yes (i := 15) (v := ?_) rfl (by kernel_rfl) (by kernel_rfl) (by kernel_rfl) (fun _ _ _ h => h) (by rfl) (fun w hSw => ?_) hHeld ?_
            rotate_left
            · have kc := str_of (HS14.out.rd.below hSw); go_simp; try with_reducible rfl
            simp only [List.setIfInBounds_toArray, List.set_cons_zero, List.set_cons_succ]
            refine held_yes (i := 16) (v := ?_) rfl (by kernel_rfl) (by kernel_rfl) (by kernel_rfl) (fun _ _ _ h => h) (by rfl) (fun w hSw => ?_) hHeld ?_
            rotate_left
            · go_simp; try with_reducible rfl
            simp only [List.setIfInBounds_toArray, List.set_cons_zero, List.set_cons_succ]
            refine held_yes (i := 17) (v := ?_) rfl (by kernel_rfl) (by kernel_rfl) (by kernel_rfl) (fun _ _ _ h => h) (by rfl) (fun w hSw => ?_) hHeld ?_
            rotate_left
            · go_simp; try with_reducible rfl
            simp only [List.setIfInBounds_toArray, List.set_cons_zero, List.set_cons_succ]
            refine held_yes (i := 18) (v := ?_) rfl (by kernel_rfl) (by kernel_rfl) (by kernel_rfl) (fun _ _ _ h => h) (by rfl) (fun w hSw => ?_) hHeld ?_
            rotate_left
            · go_simp; try with_reducible rfl
            simp only [List.setIfInBounds_toArray, List.set_cons_zero, List.set_cons_succ]
            refine wpAnyH_done (by kernel_rfl) ?_ _
            go_wp2_with fail
            go_ret
            exact ⟨rfl, ((HB1.out.trans (HTN.out.below.mono HB1.out.size)).trans (((((((((Below.refl wn.heap.size wn).drew).trans (HBQ1.out.mono ((Below.refl wn.heap.size wn).drew).size)).trans (HBQ2.out.mono (((Below.refl wn.heap.size wn).drew).trans (HBQ1.out.mono ((Below.refl wn.heap.size wn).drew).size)).size)).trans (HBQ3.out.mono ((((Below.refl wn.heap.size wn).drew).trans (HBQ1.out.mono ((Below.refl wn.heap.size wn).drew).size)).trans (HBQ2.out.mono (((Below.refl wn.heap.size wn).drew).trans (HBQ1.out.mono ((Below.refl wn.heap.size wn).drew).size)).size)).size)).trans (HBQ7.out.mono (((((Below.refl wn.heap.size wn).drew).trans (HBQ1.out.mono ((Below.refl wn.heap.size wn).drew).size)).trans (HBQ2.out.mono (((Below.refl wn.heap.size wn).drew).trans (HBQ1.out.mono ((Below.refl wn.heap.size wn).drew).size)).size)).trans (HBQ3.out.mono ((((Below.refl wn.heap.size wn).drew).trans (HBQ1.out.mono ((Below.refl wn.heap.size wn).drew).size)).trans (HBQ2.out.mono (((Below.refl wn.heap.size wn).drew).trans (HBQ1.out.mono ((Below.refl wn.heap.size wn).drew).size)).size)).size)).size)).trans (HBQ8.out.mono ((((((Below.refl wn.heap.size wn).drew).trans (HBQ1.out.mono ((Below.refl wn.heap.size wn).drew).size)).trans (HBQ2.out.mono (((Below.refl wn.heap.size wn).drew).trans (HBQ1.out.mono ((Below.refl wn.heap.size wn).drew).size)).size)).trans (HBQ3.out.mono ((((Below.refl wn.heap.size wn).drew).trans (HBQ1.out.mono ((Below.refl wn.heap.size wn).drew).size)).trans (HBQ2.out.mono (((Below.refl wn.heap.size wn).drew).trans (HBQ1.out.mono ((Below.refl wn.heap.size wn).drew).size)).size)).size)).trans (HBQ7.out.mono (((((Below.refl wn.heap.size wn).drew).trans (HBQ1.out.mono ((Below.refl wn.heap.size wn).drew).size)).trans (HBQ2.out.mono (((Below.refl wn.heap.size wn).drew).trans (HBQ1.out.mono ((Below.refl wn.heap.size wn).drew).size)).size)).trans (HBQ3.out.mono ((((Below.refl wn.heap.size wn).drew).trans (HBQ1.out.mono ((Below.refl wn.heap.size wn).drew).size)).trans (HBQ2.out.mono (((Below.refl wn.heap.size wn).drew).trans (HBQ1.out.mono ((Below.refl wn.heap.size wn).drew).size)).size)).size)).size)).size)).trans (HBQ9.out.mono (((((((Below.refl wn.heap.size wn).drew).trans (HBQ1.out.mono ((Below.refl wn.heap.size wn).drew).size)).trans (HBQ2.out.mono (((Below.refl wn.heap.size wn).drew).trans (HBQ1.out.mono ((Below.refl wn.heap.size wn).drew).size)).size)).trans (HBQ3.out.mono ((((Below.refl wn.heap.size wn).drew).trans (HBQ1.out.mono ((Below.refl wn.heap.size wn).drew).size)).trans (HBQ2.out.mono (((Below.refl wn.heap.size wn).drew).trans (HBQ1.out.mono ((Below.refl wn.heap.size wn).drew).size)).size)).size)).trans (HBQ7.out.mono (((((Below.refl wn.heap.size wn).drew).trans (HBQ1.out.mono ((Below.refl wn.heap.size wn).drew).size)).trans (HBQ2.out.mono (((Below.refl wn.heap.size wn).drew).trans (HBQ1.out.mono ((Below.refl wn.heap.size wn).drew).size)).size)).trans (HBQ3.out.mono ((((Below.refl wn.heap.size wn).drew).trans (HBQ1.out.mono ((Below.refl wn.heap.size wn).drew).size)).trans (HBQ2.out.mono (((Below.refl wn.heap.size wn).drew).trans (HBQ1.out.mono ((Below.refl wn.heap.size wn).drew).size)).size)).size)).size)).trans (HBQ8.out.mono ((((((Below.refl wn.heap.size wn).drew).trans (HBQ1.out.mono ((Below.refl wn.heap.size wn).drew).size)).trans (HBQ2.out.mono (((Below.refl wn.heap.size wn).drew).trans (HBQ1.out.mono ((Below.refl wn.heap.size wn).drew).size)).size)).trans (HBQ3.out.mono ((((Below.refl wn.heap.size wn).drew).trans (HBQ1.out.mono ((Below.refl wn.heap.size wn).drew).size)).trans (HBQ2.out.mono (((Below.refl wn.heap.size wn).drew).trans (HBQ1.out.mono ((Below.refl wn.heap.size wn).drew).size)).size)).size)).trans (HBQ7.out.mono (((((Below.refl wn.heap.size wn).drew).trans (HBQ1.out.mono ((Below.refl wn.heap.size wn).drew).size)).trans (HBQ2.out.mono (((Below.refl wn.heap.size wn).drew).trans (HBQ1.out.mono ((Below.refl wn.heap.size wn).drew).size)).size)).trans (HBQ3.out.mono ((((Below.refl wn.heap.size wn).drew).trans (HBQ1.out.mono ((Below.refl wn.heap.size wn).drew).size)).trans (HBQ2.out.mono (((Below.refl wn.heap.size wn).drew).trans (HBQ1.out.mono ((Below.refl wn.heap.size wn).drew).size)).size)).size)).size)).size)).size)).mono HBS.out))⟩
        · skip
          rw [if_pos (by rfl)]
          go_wp2_with fail
          refine world_at (F := fun wx => Below wn.drew.heap.size wn.drew wx ∧ Rd wx 1 (some ⟨wn.drew.heap.size, 0, none⟩) 1 1 [.slice none 0 0]) ⟨(Below.refl _ _).alloc (Nat.le_refl _) _, rd_lit wn.drew #[.slice none 0 0] _ 1 1 rfl (by simp [maxLen])⟩ (fun wq10 HF => ?_)
          have HBQ10 := Lib.hid HF.out.1
          have HR4 := Lib.hid HF.out.2
          clear HF
          refine hK.out _ _ ((Below.refl wn.heap.size wn).drew.trans HBQ10.out) (fun _ => ?_)
          clear hK K
          try simp only [Act.put, List.setIfInBounds_toArray, List.set_cons_zero, List.set_cons_succ]
          refine wpAnyH_mono (S' := fun w' => Below wq10.heap.size wq10 w') (fun w' h => ((Below.refl wn.heap.size wn).drew.trans HBQ10.out).trans (h.mono (by have := HBQ10.out.size; first | exact this | simpa using this))) ?_
          have hHeld : Below wq10.heap.size wq10 wq10 := Below.refl _ _
          refine held_only (i := 1) (by kernel_rfl) rfl (fun K hK => ?_)
          rw [if_pos (by rfl)]
          go_simp
          refine (hsum_live w1.heap.size Ag _ wq10 (HTN.out.live1.below (((Below.refl wn.heap.size wn).drew).trans (HBQ10.out.mono ((Below.refl wn.heap.size wn).drew).size))) HLEN.out).mono ?_
          rintro e wq11 ⟨A1, c1, rfl, hs1, hb1⟩
          have HS1 := Lib.hid hs1
          have HBQ11 := Lib.hid hb1
          clear hs1 hb1
          go_wp2_with fail
          refine hK.out _ _ HBQ11.out (fun _ => ?_)
          clear hK K
          try simp only [Act.put, List.setIfInBounds_toArray, List.set_cons_zero, List.set_cons_succ]
          refine wpAnyH_mono (S' := fun w' => Below wq11.heap.size wq11 w') (fun w' h => HBQ11.out.trans (h.mono (by have := HBQ11.out.size; first | exact this | simpa using this))) ?_
          have hHeld : Below wq11.heap.size wq11 wq11 := Below.refl _ _
          refine held_yes (i := 2) (v := ?_) rfl (by kernel_rfl) (by kernel_rfl) (by kernel_rfl) (fun _ _ _ h => h) (by rfl) (fun w hSw => ?_) hHeld ?_
          rotate_left
          · have kc := str_of (HS1.out.rd.below hSw); go_simp; try with_reducible rfl
          simp only [List.setIfInBounds_toArray, List.set_cons_zero, List.set_cons_succ]
          refine held_only (i := 5) (by kernel_rfl) rfl (fun K hK => ?_)
          rw [if_pos (by rfl)]
          go_simp
          refine (sum_one _ _ _ _ _ _ wq11 (HR4.out.below HBQ11.out) (HRN.out.below ((((Below.refl wn.heap.size wn).drew).trans (HBQ10.out.mono ((Below.refl wn.heap.size wn).drew).size)).trans (HBQ11.out.mono (((Below.refl wn.heap.size wn).drew).trans (HBQ10.out.mono ((Below.refl wn.heap.size wn).drew).size)).size))) HLEN.out).mono ?_
          rintro e wq12 ⟨A5, c5, rfl, hs5, hb5⟩
          have HS5 := Lib.hid hs5
          have HBQ12 := Lib.hid hb5
          clear hs5 hb5
          go_wp2_with fail
          refine hK.out _ _ HBQ12.out (fun _ => ?_)
          clear hK K
          try simp only [Act.put, List.setIfInBounds_toArray, List.set_cons_zero, List.set_cons_succ]
          refine wpAnyH_mono (S' := fun w' => Below wq12.heap.size wq12 w') (fun w' h => HBQ12.out.trans (h.mono (by have := HBQ12.out.size; first | exact this | simpa using this))) ?_
          have hHeld : Below wq12.heap.size wq12 wq12 := Below.refl _ _
          refine held_yes (i := 6) (v := ?_) rfl (by kernel_rfl) (by kernel_rfl) (by kernel_rfl) (fun _ _ _ h => h) (by rfl) (fun w hSw => ?_) hHeld ?_
          rotate_left
          · have kc := str_of (HS5.out.rd.below hSw); go_simp; try with_reducible rfl
          simp only [List.setIfInBounds_toArray, List.set_cons_zero, List.set_cons_succ]
          refine held_yes (i := 7) (v := ?_) rfl (by kernel_rfl) (by kernel_rfl) (by kernel_rfl) (fun _ _ _ h => h) (by rfl) (fun w hSw => ?_) hHeld ?_
          rotate_left
          · go_simp; try with_reducible rfl
          simp only [List.setIfInBounds_toArray, List.set_cons_zero, List.set_cons_succ]
          refine held_yes (i := 8) (v := ?_) rfl (by kernel_rfl) (by kernel_rfl) (by kernel_rfl) (fun _ _ _ h => h) (by rfl) (fun w hSw => ?_) hHeld ?_
          rotate_left
          · go_simp; try with_reducible rfl
          simp only [List.setIfInBounds_toArray, List.set_cons_zero, List.set_cons_succ]
          refine held_yes (i := 9) (v := ?_) rfl (by kernel_rfl) (by kernel_rfl) (by kernel_rfl) (fun _ _ _ h => h) (by rfl) (fun w hSw => ?_) hHeld ?_
          rotate_left
          · go_simp; try with_reducible rfl
          simp only [List.setIfInBounds_toArray, List.set_cons_zero, List.set_cons_succ]
          refine held_yes (i := 12) (v := ?_) rfl (by kernel_rfl) (by kernel_rfl) (by kernel_rfl) (fun _ _ _ h => h) (by rfl) (fun w hSw => ?_) hHeld ?_
          rotate_left
          · go_simp; try with_reducible rfl
          simp only [List.setIfInBounds_toArray, List.set_cons_zero, List.set_cons_succ]
          refine wpAnyH_ready (rs := [10, 13]) (by kernel_rfl) (by simp) (AllReadyH.cons rfl (fun K hK => ?_) (AllReadyH.cons rfl (fun K hK => ?_) AllReadyH.nil))
          · skip
            rw [if_pos (by rfl)]
            go_simp
            refine (hsum_live (w1.heap.size + 1) A3 _ wq12 (HTN.out.live2.below (((((Below.refl wn.heap.size wn).drew).trans (HBQ10.out.mono ((Below.refl wn.heap.size wn).drew).size)).trans (HBQ11.out.mono (((Below.refl wn.heap.size wn).drew).trans (HBQ10.out.mono ((Below.refl wn.heap.size wn).drew).size)).size)).trans (HBQ12.out.mono ((((Below.refl wn.heap.size wn).drew).trans (HBQ10.out.mono ((Below.refl wn.heap.size wn).drew).size)).trans (HBQ11.out.mono (((Below.refl wn.heap.size wn).drew).trans (HBQ10.out.mono ((Below.refl wn.heap.size wn).drew).size)).size)).size))) HLEN.out).mono ?_
            rintro e wq13 ⟨A10, c10, rfl, hs10, hb10⟩
            have HS10 := Lib.hid hs10
            have HBQ13 := Lib.hid hb10
            clear hs10 hb10
            go_wp2_with fail
            refine hK.out _ _ HBQ13.out (fun _ => ?_)
            clear hK K
            try simp only [Act.put, List.setIfInBounds_toArray, List.set_cons_zero, List.set_cons_succ]
            refine wpAnyH_mono (S' := fun w' => Below wq13.heap.size wq13 w') (fun w' h => HBQ13.out.trans (h.mono (by have := HBQ13.out.size; first | exact this | simpa using this))) ?_
            have hHeld : Below wq13.heap.size wq13 wq13 := Below.refl _ _
            refine held_yes (i := 11) (v := ?_) rfl (by kernel_rfl) (by kernel_rfl) (by kernel_rfl) (fun _ _ _ h => h) (by rfl) (fun w hSw => ?_) hHeld ?_
            rotate_left
            · have kc := str_of (HS10.out.rd.below hSw); go_simp; try with_reducible rfl
            simp only [List.setIfInBounds_toArray, List.set_cons_zero, List.set_cons_succ]
            refine held_only (i := 13) (by kernel_rfl) rfl (fun K hK => ?_)
            rw [if_pos (by rfl)]
            go_wp2_with fail
            refine world_at (F := fun wx => Below wq13.heap.size wq13 wx ∧ Rd wx 1 (some ⟨wq13.heap.size, 0, none⟩) 1 1 [.slice none 0 0]) ⟨(Below.refl _ _).alloc (Nat.le_refl _) _, rd_lit wq13 #[.slice none 0 0] _ 1 1 rfl (by simp [maxLen])⟩ (fun wq14 HF => ?_)
            have HBQ14 := Lib.hid HF.out.1
            have HR13 := Lib.hid HF.out.2
            clear HF
            refine hK.out _ _ HBQ14.out (fun _ => ?_)
            clear hK K
            try simp only [Act.put, List.setIfInBounds_toArray, List.set_cons_zero, List.set_cons_succ]
            refine wpAnyH_mono (S' := fun w' => Below wq14.heap.size wq14 w') (fun w' h => HBQ14.out.trans (h.mono (by have := HBQ14.out.size; first | exact this | simpa using this))) ?_
            have hHeld : Below wq14.heap.size wq14 wq14 := Below.refl _ _
            refine held_only (i := 14) (by kernel_rfl) rfl (fun K hK => ?_)
            rw [if_pos (by rfl)]
            go_simp
            refine (sum_one _ _ _ _ _ _ wq14 (HR13.out.below (Below.refl _ _)) (HRN.out.below (((((((Below.refl wn.heap.size wn).drew).trans (HBQ10.out.mono ((Below.refl wn.heap.size wn).drew).size)).trans (HBQ11.out.mono (((Below.refl wn.heap.size wn).drew).trans (HBQ10.out.mono ((Below.refl wn.heap.size wn).drew).size)).size)).trans (HBQ12.out.mono ((((Below.refl wn.heap.size wn).drew).trans (HBQ10.out.mono ((Below.refl wn.heap.size wn).drew).size)).trans (HBQ11.out.mono (((Below.refl wn.heap.size wn).drew).trans (HBQ10.out.mono ((Below.refl wn.heap.size wn).drew).size)).size)).size)).trans (HBQ13.out.mono (((((Below.refl wn.heap.size wn).drew).trans (HBQ10.out.mono ((Below.refl wn.heap.size wn).drew).size)).trans (HBQ11.out.mono (((Below.refl wn.heap.size wn).drew).trans (HBQ10.out.mono ((Below.refl wn.heap.size wn).drew).size)).size)).trans (HBQ12.out.mono ((((Below.refl wn.heap.size wn).drew).trans (HBQ10.out.mono ((Below.refl wn.heap.size wn).drew).size)).trans (HBQ11.out.mono (((Below.refl wn.heap.size wn).drew).trans (HBQ10.out.mono ((Below.refl wn.heap.size wn).drew).size)).size)).size)).size)).trans (HBQ14.out.mono ((((((Below.refl wn.heap.size wn).drew).trans (HBQ10.out.mono ((Below.refl wn.heap.size wn).drew).size)).trans (HBQ11.out.mono (((Below.refl wn.heap.size wn).drew).trans (HBQ10.out.mono ((Below.refl wn.heap.size wn).drew).size)).size)).trans (HBQ12.out.mono ((((Below.refl wn.heap.size wn).drew).trans (HBQ10.out.mono ((Below.refl wn.heap.size wn).drew).size)).trans (HBQ11.out.mono (((Below.refl wn.heap.size wn).drew).trans (HBQ10.out.mono ((Below.refl wn.heap.size wn).drew).size)).size)).size)).trans (HBQ13.out.mono (((((Below.refl wn.heap.size wn).drew).trans (HBQ10.out.mono ((Below.refl wn.heap.size wn).drew).size)).trans (HBQ11.out.mono (((Below.refl wn.heap.size wn).drew).trans (HBQ10.out.mono ((Below.refl wn.heap.size wn).drew).size)).size)).trans (HBQ12.out.mono ((((Below.refl wn.heap.size wn).drew).trans (HBQ10.out.mono ((Below.refl wn.heap.size wn).drew).size)).trans (HBQ11.out.mono (((Below.refl wn.heap.size wn).drew).trans (HBQ10.out.mono ((Below.refl wn.heap.size wn).drew).size)).size)).size)).size)).size))) HLEN.out).mono ?_
            rintro e wq15 ⟨A14, c14, rfl, hs14, hb14⟩
            have HS14 := Lib.hid hs14
            have HBQ15 := Lib.hid hb14
            clear hs14 hb14
            go_wp2_with fail
            refine hK.out _ _ HBQ15.out (fun _ => ?_)
            clear hK K
            try simp only [Act.put, List.setIfInBounds_toArray, List.set_cons_zero, List.set_cons_succ]
            refine wpAnyH_mono (S' := fun w' => Below wq15.heap.size wq15 w') (fun w' h => HBQ15.out.trans (h.mono (by have := HBQ15.out.size; first | exact this | simpa using this))) ?_
            have hHeld : Below wq15.heap.size wq15 wq15 := Below.refl _ _
            refine held_yes (i := 15) (v := ?_) rfl (by kernel_rfl) (by kernel_rfl) (by kernel_rfl) (fun _ _ _ h => h) (by rfl) (fun w hSw => ?_) hHeld ?_
            rotate_left
            · have kc := str_of (HS14.out.rd.below hSw); go_simp; try with_reducible rfl
            simp only [List.setIfInBounds_toArray, List.set_cons_zero, List.set_cons_succ]
            refine held_yes (i := 16) (v := ?_) rfl (by kernel_rfl) (by kernel_rfl) (by kernel_rfl) (fun _ _ _ h => h) (by rfl) (fun w hSw => ?_) hHeld ?_
            rotate_left
            · go_simp; try with_reducible rfl
            simp only [List.setIfInBounds_toArray, List.set_cons_zero, List.set_cons_succ]
            refine held_yes (i := 17) (v := ?_) rfl (by kernel_rfl) (by kernel_rfl) (by kernel_rfl) (fun _ _ _ h => h) (by rfl) (fun w hSw => ?_) hHeld ?_
            rotate_left
            · go_simp; try with_reducible rfl
            simp only [List.setIfInBounds_toArray, List.set_cons_zero, List.set_cons_succ]
            refine held_yes (i := 18) (v := ?_) rfl (by kernel_rfl) (by kernel_rfl) (by kernel_rfl) (fun _ _ _ h => h) (by rfl) (fun w hSw => ?_) hHeld ?_
            rotate_left
            · go_simp; try with_reducible rfl
            simp only [List.setIfInBounds_toArray, List.set_cons_zero, List.set_cons_succ]
            refine wpAnyH_done (by kernel_rfl) ?_ _
            go_wp2_with fail
            go_ret
            exact ⟨rfl, ((HB1.out.trans (HTN.out.below.mono HB1.out.size)).trans (((((((((Below.refl wn.heap.size wn).drew).trans (HBQ10.out.mono ((Below.refl wn.heap.size wn).drew).size)).trans (HBQ11.out.mono (((Below.refl wn.heap.size wn).drew).trans (HBQ10.out.mono ((Below.refl wn.heap.size wn).drew).size)).size)).trans (HBQ12.out.mono ((((Below.refl wn.heap.size wn).drew).trans (HBQ10.out.mono ((Below.refl wn.heap.size wn).drew).size)).trans (HBQ11.out.mono (((Below.refl wn.heap.size wn).drew).trans (HBQ10.out.mono ((Below.refl wn.heap.size wn).drew).size)).size)).size)).trans (HBQ13.out.mono (((((Below.refl wn.heap.size wn).drew).trans (HBQ10.out.mono ((Below.refl wn.heap.size wn).drew).size)).trans (HBQ11.out.mono (((Below.refl wn.heap.size wn).drew).trans (HBQ10.out.mono ((Below.refl wn.heap.size wn).drew).size)).size)).trans (HBQ12.out.mono ((((Below.refl wn.heap.size wn).drew).trans (HBQ10.out.mono ((Below.refl wn.heap.size wn).drew).size)).trans (HBQ11.out.mono (((Below.refl wn.heap.size wn).drew).trans (HBQ10.out.mono ((Below.refl wn.heap.size wn).drew).size)).size)).size)).size)).trans (HBQ14.out.mono ((((((Below.refl wn.heap.size wn).drew).trans (HBQ10.out.mono ((Below.refl wn.heap.size wn).drew).size)).trans (HBQ11.out.mono (((Below.refl wn.heap.size wn).drew).trans (HBQ10.out.mono ((Below.refl wn.heap.size wn).drew).size)).size)).trans (HBQ12.out.mono ((((Below.refl wn.heap.size wn).drew).trans (HBQ10.out.mono ((Below.refl wn.heap.size wn).drew).size)).trans (HBQ11.out.mono (((Below.refl wn.heap.size wn).drew).trans (HBQ10.out.mono ((Below.refl wn.heap.size wn).drew).size)).size)).size)).trans (HBQ13.out.mono (((((Below.refl wn.heap.size wn).drew).trans (HBQ10.out.mono ((Below.refl wn.heap.size wn).drew).size)).trans (HBQ11.out.mono (((Below.refl wn.heap.size wn).drew).trans (HBQ10.out.mono ((Below.refl wn.heap.size wn).drew).size)).size)).trans (HBQ12.out.mono ((((Below.refl wn.heap.size wn).drew).trans (HBQ10.out.mono ((Below.refl wn.heap.size wn).drew).size)).trans (HBQ11.out.mono (((Below.refl wn.heap.size wn).drew).trans (HBQ10.out.mono ((Below.refl wn.heap.size wn).drew).size)).size)).size)).size)).size)).trans (HBQ15.out.mono (((((((Below.refl wn.heap.size wn).drew).trans (HBQ10.out.mono ((Below.refl wn.heap.size wn).drew).size)).trans (HBQ11.out.mono (((Below.refl wn.heap.size wn).drew).trans (HBQ10.out.mono ((Below.refl wn.heap.size wn).drew).size)).size)).trans (HBQ12.out.mono ((((Below.refl wn.heap.size wn).drew).trans (HBQ10.out.mono ((Below.refl wn.heap.size wn).drew).size)).trans (HBQ11.out.mono (((Below.refl wn.heap.size wn).drew).trans (HBQ10.out.mono ((Below.refl wn.heap.size wn).drew).size)).size)).size)).trans (HBQ13.out.mono (((((Below.refl wn.heap.size wn).drew).trans (HBQ10.out.mono ((Below.refl wn.heap.size wn).drew).size)).trans (HBQ11.out.mono (((Below.refl wn.heap.size wn).drew).trans (HBQ10.out.mono ((Below.refl wn.heap.size wn).drew).size)).size)).trans (HBQ12.out.mono ((((Below.refl wn.heap.size wn).drew).trans (HBQ10.out.mono ((Below.refl wn.heap.size wn).drew).size)).trans (HBQ11.out.mono (((Below.refl wn.heap.size wn).drew).trans (HBQ10.out.mono ((Below.refl wn.heap.size wn).drew).size)).size)).size)).size)).trans (HBQ14.out.mono ((((((Below.refl wn.heap.size wn).drew).trans (HBQ10.out.mono ((Below.refl wn.heap.size wn).drew).size)).trans (HBQ11.out.mono (((Below.refl wn.heap.size wn).drew).trans (HBQ10.out.mono ((Below.refl wn.heap.size wn).drew).size)).size)).trans (HBQ12.out.mono ((((Below.refl wn.heap.size wn).drew).trans (HBQ10.out.mono ((Below.refl wn.heap.size wn).drew).size)).trans (HBQ11.out.mono (((Below.refl wn.heap.size wn).drew).trans (HBQ10.out.mono ((Below.refl wn.heap.size wn).drew).size)).size)).size)).trans (HBQ13.out.mono (((((Below.refl wn.heap.size wn).drew).trans (HBQ10.out.mono ((Below.refl wn.heap.size wn).drew).size)).trans (HBQ11.out.mono (((Below.refl wn.heap.size wn).drew).trans (HBQ10.out.mono ((Below.refl wn.heap.size wn).drew).size)).size)).trans (HBQ12.out.mono ((((Below.refl wn.heap.size wn).drew).trans (HBQ10.out.mono ((Below.refl wn.heap.size wn).drew).size)).trans (HBQ11.out.mono (((Below.refl wn.heap.size wn).drew).trans (HBQ10.out.mono ((Below.refl wn.heap.size wn).drew).size)).size)).size)).size)).size)).size)).mono HBS.out))⟩
          · skip
            rw [if_pos (by rfl)]
            go_wp2_with fail
            refine world_at (F := fun wx => Below wq12.heap.size wq12 wx ∧ Rd wx 1 (some ⟨wq12.heap.size, 0, none⟩) 1 1 [.slice none 0 0]) ⟨(Below.refl _ _).alloc (Nat.le_refl _) _, rd_lit wq12 #[.slice none 0 0] _ 1 1 rfl (by simp [maxLen])⟩ (fun wq16 HF => ?_)
            have HBQ16 := Lib.hid HF.out.1
            have HR13 := Lib.hid HF.out.2
            clear HF
            refine hK.out _ _ HBQ16.out (fun _ => ?_)
            clear hK K
            try simp only [Act.put, List.setIfInBounds_toArray, List.set_cons_zero, List.set_cons_succ]
            refine wpAnyH_mono (S' := fun w' => Below wq16.heap.size wq16 w') (fun w' h => HBQ16.out.trans (h.mono (by have := HBQ16.out.size; first | exact this | simpa using this))) ?_
            have hHeld : Below wq16.heap.size wq16 wq16 := Below.refl _ _
            refine held_only (i := 10) (by kernel_rfl) rfl (fun K hK => ?_)
            rw [if_pos (by rfl)]
            go_simp
            refine (hsum_live (w1.heap.size + 1) A3 _ wq16 (HTN.out.live2.below ((((((Below.refl wn.heap.size wn).drew).trans (HBQ10.out.mono ((Below.refl wn.heap.size wn).drew).size)).trans (HBQ11.out.mono (((Below.refl wn.heap.size wn).drew).trans (HBQ10.out.mono ((Below.refl wn.heap.size wn).drew).size)).size)).trans (HBQ12.out.mono ((((Below.refl wn.heap.size wn).drew).trans (HBQ10.out.mono ((Below.refl wn.heap.size wn).drew).size)).trans (HBQ11.out.mono (((Below.refl wn.heap.size wn).drew).trans (HBQ10.out.mono ((Below.refl wn.heap.size wn).drew).size)).size)).size)).trans (HBQ16.out.mono (((((Below.refl wn.heap.size wn).drew).trans (HBQ10.out.mono ((Below.refl wn.heap.size wn).drew).size)).trans (HBQ11.out.mono (((Below.refl wn.heap.size wn).drew).trans (HBQ10.out.mono ((Below.refl wn.heap.size wn).drew).size)).size)).trans (HBQ12.out.mono ((((Below.refl wn.heap.size wn).drew).trans (HBQ10.out.mono ((Below.refl wn.heap.size wn).drew).size)).trans (HBQ11.out.mono (((Below.refl wn.heap.size wn).drew).trans (HBQ10.out.mono ((Below.refl wn.heap.size wn).drew).size)).size)).size)).size))) HLEN.out).mono ?_
            rintro e wq17 ⟨A10, c10, rfl, hs10, hb10⟩
            have HS10 := Lib.hid hs10
            have HBQ17 := Lib.hid hb10
            clear hs10 hb10
            go_wp2_with fail
            refine hK.out _ _ HBQ17.out (fun _ => ?_)
            clear hK K
            try simp only [Act.put, List.setIfInBounds_toArray, List.set_cons_zero, List.set_cons_succ]
            refine wpAnyH_mono (S' := fun w' => Below wq17.heap.size wq17 w') (fun w' h => HBQ17.out.trans (h.mono (by have := HBQ17.out.size; first | exact this | simpa using this))) ?_
            have hHeld : Below wq17.heap.size wq17 wq17 := Below.refl _ _
            refine held_yes (i := 11) (v := ?_) rfl (by kernel_rfl) (by kernel_rfl) (by kernel_rfl) (fun _ _ _ h => h) (by rfl) (fun w hSw => ?_) hHeld ?_
            rotate_left
            · have kc := str_of (HS10.out.rd.below hSw); go_simp; try with_reducible rfl
            simp only [List.setIfInBounds_toArray, List.set_cons_zero, List.set_cons_succ]
            refine held_only (i := 14) (by kernel_rfl) rfl (fun K hK => ?_)
            rw [if_pos (by rfl)]
            go_simp
            refine (sum_one _ _ _ _ _ _ wq17 (HR13.out.below HBQ17.out) (HRN.out.below (((((((Below.refl wn.heap.size wn).drew).trans (HBQ10.out.mono ((Below.refl wn.heap.size wn).drew).size)).trans (HBQ11.out.mono (((Below.refl wn.heap.size wn).drew).trans (HBQ10.out.mono ((Below.refl wn.heap.size wn).drew).size)).size)).trans (HBQ12.out.mono ((((Below.refl wn.heap.size wn).drew).trans (HBQ10.out.mono ((Below.refl wn.heap.size wn).drew).size)).trans (HBQ11.out.mono (((Below.refl wn.heap.size wn).drew).trans (HBQ10.out.mono ((Below.refl wn.heap.size wn).drew).size)).size)).size)).trans (HBQ16.out.mono (((((Below.refl wn.heap.size wn).drew).trans (HBQ10.out.mono ((Below.refl wn.heap.size wn).drew).size)).trans (HBQ11.out.mono (((Below.refl wn.heap.size wn).drew).trans (HBQ10.out.mono ((Below.refl wn.heap.size wn).drew).size)).size)).trans (HBQ12.out.mono ((((Below.refl wn.heap.size wn).drew).trans (HBQ10.out.mono ((Below.refl wn.heap.size wn).drew).size)).trans (HBQ11.out.mono (((Below.refl wn.heap.size wn).drew).trans (HBQ10.out.mono ((Below.refl wn.heap.size wn).drew).size)).size)).size)).size)).trans (HBQ17.out.mono ((((((Below.refl wn.heap.size wn).drew).trans (HBQ10.out.mono ((Below.refl wn.heap.size wn).drew).size)).trans (HBQ11.out.mono (((Below.refl wn.heap.size wn).drew).trans (HBQ10.out.mono ((Below.refl wn.heap.size wn).drew).size)).size)).trans (HBQ12.out.mono ((((Below.refl wn.heap.size wn).drew).trans (HBQ10.out.mono ((Below.refl wn.heap.size wn).drew).size)).trans (HBQ11.out.mono (((Below.refl wn.heap.size wn).drew).trans (HBQ10.out.mono ((Below.refl wn.heap.size wn).drew).size)).size)).size)).trans (HBQ16.out.mono (((((Below.refl wn.heap.size wn).drew).trans (HBQ10.out.mono ((Below.refl wn.heap.size wn).drew).size)).trans (HBQ11.out.mono (((Below.refl wn.heap.size wn).drew).trans (HBQ10.out.mono ((Below.refl wn.heap.size wn).drew).size)).size)).trans (HBQ12.out.mono ((((Below.refl wn.heap.size wn).drew).trans (HBQ10.out.mono ((Below.refl wn.heap.size wn).drew).size)).trans (HBQ11.out.mono (((Below.refl wn.heap.size wn).drew).trans (HBQ10.out.mono ((Below.refl wn.heap.size wn).drew).size)).size)).size)).size)).size))) HLEN.out).mono ?_
            rintro e wq18 ⟨A14, c14, rfl, hs14, hb14⟩
            have HS14 := Lib.hid hs14
            have HBQ18 := Lib.hid hb14
            clear hs14 hb14
            go_wp2_with fail
            refine hK.out _ _ HBQ18.out (fun _ => ?_)
            clear hK K
            try simp only [Act.put, List.setIfInBounds_toArray, List.set_cons_zero, List.set_cons_succ]
            refine wpAnyH_mono (S' := fun w' => Below wq18.heap.size wq18 w') (fun w' h => HBQ18.out.trans (h.mono (by have := HBQ18.out.size; first | exact this | simpa using this))) ?_
            have hHeld : Below wq18.heap.size wq18 wq18 := Below.refl _ _
            refine held_yes (i := 15) (v := ?_) rfl (by kernel_rfl) (by kernel_rfl) (by kernel_rfl) (fun _ _ _ h => h) (by rfl) (fun w hSw => ?_) hHeld ?_
            rotate_left
            · have kc := str_of (HS14.out.rd.below hSw); go_simp; try with_reducible rfl
            simp only [List.setIfInBounds_toArray, List.set_cons_zero, List.set_cons_succ]
            refine held_yes (i := 16) (v := ?_) rfl (by kernel_rfl) (by kernel_rfl) (by kernel_rfl) (fun _ _ _ h => h) (by rfl) (fun w hSw => ?_) hHeld ?_
            rotate_left
            · go_simp; try with_reducible rfl
            simp only [List.setIfInBounds_toArray, List.set_cons_zero, List.set_cons_succ]
            refine held_yes (i := 17) (v := ?_) rfl (by kernel_rfl) (by kernel_rfl) (by kernel_rfl) (fun _ _ _ h => h) (by rfl) (fun w hSw => ?_) hHeld ?_
            rotate_left
            · go_simp; try with_reducible rfl
            simp only [List.setIfInBounds_toArray, List.set_cons_zero, List.set_cons_succ]
            refine held_yes (i := 18) (v := ?_) rfl (by kernel_rfl) (by kernel_rfl) (by kernel_rfl) (fun _ _ _ h => h) (by rfl) (fun w hSw => ?_) hHeld ?_
            rotate_left
            · go_simp; try with_reducible rfl
            simp only [List.setIfInBounds_toArray, List.set_cons_zero, List.set_cons_succ]
            refine wpAnyH_done (by kernel_rfl) ?_ _
            go_wp2_with fail
            go_ret
            exact ⟨rfl, ((HB1.out.trans (HTN.out.below.mono HB1.out.size)).trans (((((((((Below.refl wn.heap.size wn).drew).trans (HBQ10.out.mono ((Below.refl wn.heap.size wn).drew).size)).trans (HBQ11.out.mono (((Below.refl wn.heap.size wn).drew).trans (HBQ10.out.mono ((Below.refl wn.heap.size wn).drew).size)).size)).trans (HBQ12.out.mono ((((Below.refl wn.heap.size wn).drew).trans (HBQ10.out.mono ((Below.refl wn.heap.size wn).drew).size)).trans (HBQ11.out.mono (((Below.refl wn.heap.size wn).drew).trans (HBQ10.out.mono ((Below.refl wn.heap.size wn).drew).size)).size)).size)).trans (HBQ16.out.mono (((((Below.refl wn.heap.size wn).drew).trans (HBQ10.out.mono ((Below.refl wn.heap.size wn).drew).size)).trans (HBQ11.out.mono (((Below.refl wn.heap.size wn).drew).trans (HBQ10.out.mono ((Below.refl wn.heap.size wn).drew).size)).size)).trans (HBQ12.out.mono ((((Below.refl wn.heap.size wn).drew).trans (HBQ10.out.mono ((Below.refl wn.heap.size wn).drew).size)).trans (HBQ11.out.mono (((Below.refl wn.heap.size wn).drew).trans (HBQ10.out.mono ((Below.refl wn.heap.size wn).drew).size)).size)).size)).size)).trans (HBQ17.out.mono ((((((Below.refl wn.heap.size wn).drew).trans (HBQ10.out.mono ((Below.refl wn.heap.size wn).drew).size)).trans (HBQ11.out.mono (((Below.refl wn.heap.size wn).drew).trans (HBQ10.out.mono ((Below.refl wn.heap.size wn).drew).size)).size)).trans (HBQ12.out.mono ((((Below.refl wn.heap.size wn).drew).trans (HBQ10.out.mono ((Below.refl wn.heap.size wn).drew).size)).trans (HBQ11.out.mono (((Below.refl wn.heap.size wn).drew).trans (HBQ10.out.mono ((Below.refl wn.heap.size wn).drew).size)).size)).size)).trans (HBQ16.out.mono (((((Below.refl wn.heap.size wn).drew).trans (HBQ10.out.mono ((Below.refl wn.heap.size wn).drew).size)).trans (HBQ11.out.mono (((Below.refl wn.heap.size wn).drew).trans (HBQ10.out.mono ((Below.refl wn.heap.size wn).drew).size)).size)).trans (HBQ12.out.mono ((((Below.refl wn.heap.size wn).drew).trans (HBQ10.out.mono ((Below.refl wn.heap.size wn).drew).size)).trans (HBQ11.out.mono (((Below.refl wn.heap.size wn).drew).trans (HBQ10.out.mono ((Below.refl wn.heap.size wn).drew).size)).size)).size)).size)).size)).trans (HBQ18.out.mono (((((((Below.refl wn.heap.size wn).drew).trans (HBQ10.out.mono ((Below.refl wn.heap.size wn).drew).size)).trans (HBQ11.out.mono (((Below.refl wn.heap.size wn).drew).trans (HBQ10.out.mono ((Below.refl wn.heap.size wn).drew).size)).size)).trans (HBQ12.out.mono ((((Below.refl wn.heap.size wn).drew).trans (HBQ10.out.mono ((Below.refl wn.heap.size wn).drew).size)).trans (HBQ11.out.mono (((Below.refl wn.heap.size wn).drew).trans (HBQ10.out.mono ((Below.refl wn.heap.size wn).drew).size)).size)).size)).trans (HBQ16.out.mono (((((Below.refl wn.heap.size wn).drew).trans (HBQ10.out.mono ((Below.refl wn.heap.size wn).drew).size)).trans (HBQ11.out.mono (((Below.refl wn.heap.size wn).drew).trans (HBQ10.out.mono ((Below.refl wn.heap.size wn).drew).size)).size)).trans (HBQ12.out.mono ((((Below.refl wn.heap.size wn).drew).trans (HBQ10.out.mono ((Below.refl wn.heap.size wn).drew).size)).trans (HBQ11.out.mono (((Below.refl wn.heap.size wn).drew).trans (HBQ10.out.mono ((Below.refl wn.heap.size wn).drew).size)).size)).size)).size)).trans (HBQ17.out.mono ((((((Below.refl wn.heap.size wn).drew).trans (HBQ10.out.mono ((Below.refl wn.heap.size wn).drew).size)).trans (HBQ11.out.mono (((Below.refl wn.heap.size wn).drew).trans (HBQ10.out.mono ((Below.refl wn.heap.size wn).drew).size)).size)).trans (HBQ12.out.mono ((((Below.refl wn.heap.size wn).drew).trans (HBQ10.out.mono ((Below.refl wn.heap.size wn).drew).size)).trans (HBQ11.out.mono (((Below.refl wn.heap.size wn).drew).trans (HBQ10.out.mono ((Below.refl wn.heap.size wn).drew).size)).size)).size)).trans (HBQ16.out.mono (((((Below.refl wn.heap.size wn).drew).trans (HBQ10.out.mono ((Below.refl wn.heap.size wn).drew).size)).trans (HBQ11.out.mono (((Below.refl wn.heap.size wn).drew).trans (HBQ10.out.mono ((Below.refl wn.heap.size wn).drew).size)).size)).trans (HBQ12.out.mono ((((Below.refl wn.heap.size wn).drew).trans (HBQ10.out.mono ((Below.refl wn.heap.size wn).drew).size)).trans (HBQ11.out.mono (((Below.refl wn.heap.size wn).drew).trans (HBQ10.out.mono ((Below.refl wn.heap.size wn).drew).size)).size)).size)).size)).size)).size)).mono HBS.out))⟩
      | some a =>
       rcases Nat.eq_zero_or_pos k with hk0 | hk0
       case inl =>
        subst hk0
        obtain rfl : K = 0 := by omega
        have HBS0 : Hid (bs = []) := Lib.hid (List.eq_nil_of_length_eq_zero (by omega))
        have HR0 : ∀ w', Rd w' 1 (some a) 0 c (bvs []) := fun w' => ⟨rfl, by omega, HR.out.max, fun e => (by cases e), .inl rfl⟩
        have HR0H := Lib.hid HR0
        clear HR0
        have HWA := Lib.hid (write_live (w1.heap.size + 1) none [] [] (some a) 0 c wr HTC.out.live2 (HR0H.out _) (fun h => by omega) (by simp))
        go_wp2_with (first | (refine HWA.out.mono ?_; rintro e wm ⟨rfl, A2, hl2, ht2, ha2⟩; have HTM := Lib.hid (HTC.out.swap.wrote hl2 ht2 ha2); clear hl2 ht2 ha2 HWA; have HWB := Lib.hid (write_live (w1.heap.size + 1) A2 ([] ++ []) [] (some a) 0 c wm HTM.out.live1 (HR0H.out _) (fun h => by omega) (by simp))) | (refine HWB.out.mono ?_; rintro e wn ⟨rfl, A3, hl2, ht2, ha2⟩; have HTN := Lib.hid (HTM.out.wrote hl2 ht2 ha2).swap; clear hl2 ht2 ha2 HWB))
        rw [show ([] : List UInt8) ++ [] ++ [] = bs by rw [HBS0.out]; rfl] at HTN
        have HRN := Lib.hid (HR.out.below (HB1.out.trans (HTN.out.below.mono HB1.out.size)))
        have HBS : Hid (w.heap.size ≤ wn.heap.size) := Lib.hid (HB1.out.trans (HTN.out.below.mono HB1.out.size)).size
        refine wp_region_held_drew (S := fun w' => Below wn.heap.size wn w') (by kernel_rfl) ((Below.refl _ _).drew) (fun hHeld => ?_)
        refine held_yes (i := 0) (v := ?_) rfl (by kernel_rfl) (by kernel_rfl) (by kernel_rfl) (fun _ _ _ h => h) (by rfl) (fun w hSw => ?_) hHeld ?_
        rotate_left
        · go_simp; try with_reducible rfl
        simp only [List.setIfInBounds_toArray, List.set_cons_zero, List.set_cons_succ]
        refine held_yes (i := 3) (v := ?_) rfl (by kernel_rfl) (by kernel_rfl) (by kernel_rfl) (fun _ _ _ h => h) (by rfl) (fun w hSw => ?_) hHeld ?_
        rotate_left
        · go_simp; try with_reducible rfl
        simp only [List.setIfInBounds_toArray, List.set_cons_zero, List.set_cons_succ]
        refine wpAnyH_ready (rs := [1, 4]) (by kernel_rfl) (by simp) (AllReadyH.cons rfl (fun K hK => ?_) (AllReadyH.cons rfl (fun K hK => ?_) AllReadyH.nil))
        · skip
          rw [if_pos (by rfl)]
          go_simp
          refine (hsum_live w1.heap.size Ag _ wn.drew (HTN.out.live1.below ((Below.refl wn.heap.size wn).drew)) HLEN.out).mono ?_
          rintro e wq1 ⟨A1, c1, rfl, hs1, hb1⟩
          have HS1 := Lib.hid hs1
          have HBQ1 := Lib.hid hb1
          clear hs1 hb1
          go_wp2_with fail
          refine hK.out _ _ ((Below.refl wn.heap.size wn).drew.trans HBQ1.out) (fun _ => ?_)
          clear hK K
          try simp only [Act.put, List.setIfInBounds_toArray, List.set_cons_zero, List.set_cons_succ]
          refine wpAnyH_mono (S' := fun w' => Below wq1.heap.size wq1 w') (fun w' h => ((Below.refl wn.heap.size wn).drew.trans HBQ1.out).trans (h.mono (by have := HBQ1.out.size; first | exact this | simpa using this))) ?_
          have hHeld : Below wq1.heap.size wq1 wq1 := Below.refl _ _
          refine held_yes (i := 2) (v := ?_) rfl (by kernel_rfl) (by kernel_rfl) (by kernel_rfl) (fun _ _ _ h => h) (by rfl) (fun w hSw => ?_) hHeld ?_
          rotate_left
          · have kc := str_of (HS1.out.rd.below hSw); go_simp; try with_reducible rfl
          simp only [List.setIfInBounds_toArray, List.set_cons_zero, List.set_cons_succ]
          refine held_only (i := 4) (by kernel_rfl) rfl (fun K hK => ?_)
          rw [if_pos (by rfl)]
          go_wp2_with fail
          refine world_at (F := fun wx => Below wq1.heap.size wq1 wx ∧ Rd wx 1 (some ⟨wq1.heap.size, 0, none⟩) 1 1 [.slice (some a) 0 c]) ⟨(Below.refl _ _).alloc (Nat.le_refl _) _, rd_lit wq1 #[.slice (some a) 0 c] _ 1 1 rfl (by simp [maxLen])⟩ (fun wq2 HF => ?_)
          have HBQ2 := Lib.hid HF.out.1
          have HR4 := Lib.hid HF.out.2
          clear HF
          refine hK.out _ _ HBQ2.out (fun _ => ?_)
          clear hK K
          try simp only [Act.put, List.setIfInBounds_toArray, List.set_cons_zero, List.set_cons_succ]
          refine wpAnyH_mono (S' := fun w' => Below wq2.heap.size wq2 w') (fun w' h => HBQ2.out.trans (h.mono (by have := HBQ2.out.size; first | exact this | simpa using this))) ?_
          have hHeld : Below wq2.heap.size wq2 wq2 := Below.refl _ _
          refine held_only (i := 5) (by kernel_rfl) rfl (fun K hK => ?_)
          rw [if_pos (by rfl)]
          go_simp
          refine (sum_one _ _ _ _ _ _ wq2 (HR4.out.below (Below.refl _ _)) (HRN.out.below ((((Below.refl wn.heap.size wn).drew).trans (HBQ1.out.mono ((Below.refl wn.heap.size wn).drew).size)).trans (HBQ2.out.mono (((Below.refl wn.heap.size wn).drew).trans (HBQ1.out.mono ((Below.refl wn.heap.size wn).drew).size)).size))) HLEN.out).mono ?_
          rintro e wq3 ⟨A5, c5, rfl, hs5, hb5⟩
          have HS5 := Lib.hid hs5
          have HBQ3 := Lib.hid hb5
          clear hs5 hb5
          go_wp2_with fail
          refine hK.out _ _ HBQ3.out (fun _ => ?_)
          clear hK K
          try simp only [Act.put, List.setIfInBounds_toArray, List.set_cons_zero, List.set_cons_succ]
          refine wpAnyH_mono (S' := fun w' => Below wq3.heap.size wq3 w') (fun w' h => HBQ3.out.trans (h.mono (by have := HBQ3.out.size; first | exact this | simpa using this))) ?_
          have hHeld : Below wq3.heap.size wq3 wq3 := Below.refl _ _
          refine held_yes (i := 6) (v := ?_) rfl (by kernel_rfl) (by kernel_rfl) (by kernel_rfl) (fun _ _ _ h => h) (by rfl) (fun w hSw => ?_) hHeld ?_
          rotate_left
          · have kc := str_of (HS5.out.rd.below hSw); go_simp; try with_reducible rfl
          simp only [List.setIfInBounds_toArray, List.set_cons_zero, List.set_cons_succ]
          refine held_yes (i := 7) (v := ?_) rfl (by kernel_rfl) (by kernel_rfl) (by kernel_rfl) (fun _ _ _ h => h) (by rfl) (fun w hSw => ?_) hHeld ?_
          rotate_left
          · go_simp; try with_reducible rfl
          simp only [List.setIfInBounds_toArray, List.set_cons_zero, List.set_cons_succ]
          refine held_yes (i := 8) (v := ?_) rfl (by kernel_rfl) (by kernel_rfl) (by kernel_rfl) (fun _ _ _ h => h) (by rfl) (fun w hSw => ?_) hHeld ?_
          rotate_left
          · go_simp; try with_reducible rfl
          simp only [List.setIfInBounds_toArray, List.set_cons_zero, List.set_cons_succ]
          refine held_yes (i := 9) (v := ?_) rfl (by kernel_rfl) (by kernel_rfl) (by kernel_rfl) (fun _ _ _ h => h) (by rfl) (fun w hSw => ?_) hHeld ?_
          rotate_left
          · go_simp; try with_reducible rfl
          simp only [List.setIfInBounds_toArray, List.set_cons_zero, List.set_cons_succ]
          refine held_yes (i := 12) (v := ?_) rfl (by kernel_rfl) (by kernel_rfl) (by kernel_rfl) (fun _ _ _ h => h) (by rfl) (fun w hSw => ?_) hHeld ?_
          rotate_left
          · go_simp; try with_reducible rfl
          simp only [List.setIfInBounds_toArray, List.set_cons_zero, List.set_cons_succ]
          refine wpAnyH_ready (rs := [10, 13]) (by kernel_rfl) (by simp) (AllReadyH.cons rfl (fun K hK => ?_) (AllReadyH.cons rfl (fun K hK => ?_) AllReadyH.nil))
          · skip
            rw [if_pos (by rfl)]
            go_simp
            refine (hsum_live (w1.heap.size + 1) A3 _ wq3 (HTN.out.live2.below (((((Below.refl wn.heap.size wn).drew).trans (HBQ1.out.mono ((Below.refl wn.heap.size wn).drew).size)).trans (HBQ2.out.mono (((Below.refl wn.heap.size wn).drew).trans (HBQ1.out.mono ((Below.refl wn.heap.size wn).drew).size)).size)).trans (HBQ3.out.mono ((((Below.refl wn.heap.size wn).drew).trans (HBQ1.out.mono ((Below.refl wn.heap.size wn).drew).size)).trans (HBQ2.out.mono (((Below.refl wn.heap.size wn).drew).trans (HBQ1.out.mono ((Below.refl wn.heap.size wn).drew).size)).size)).size))) HLEN.out).mono ?_
            rintro e wq4 ⟨A10, c10, rfl, hs10, hb10⟩
            have HS10 := Lib.hid hs10
            have HBQ4 := Lib.hid hb10
            clear hs10 hb10
            go_wp2_with fail
            refine hK.out _ _ HBQ4.out (fun _ => ?_)
            clear hK K
            try simp only [Act.put, List.setIfInBounds_toArray, List.set_cons_zero, List.set_cons_succ]
            refine wpAnyH_mono (S' := fun w' => Below wq4.heap.size wq4 w') (fun w' h => HBQ4.out.trans (h.mono (by have := HBQ4.out.size; first | exact this | simpa using this))) ?_
            have hHeld : Below wq4.heap.size wq4 wq4 := Below.refl _ _
            refine held_yes (i := 11) (v := ?_) rfl (by kernel_rfl) (by kernel_rfl) (by kernel_rfl) (fun _ _ _ h => h) (by rfl) (fun w hSw => ?_) hHeld ?_
            rotate_left
            · have kc := str_of (HS10.out.rd.below hSw); go_simp; try with_reducible rfl
            simp only [List.setIfInBounds_toArray, List.set_cons_zero, List.set_cons_succ]
            refine held_only (i := 13) (by kernel_rfl) rfl (fun K hK => ?_)
            rw [if_pos (by rfl)]
            go_wp2_with fail
            refine world_at (F := fun wx => Below wq4.heap.size wq4 wx ∧ Rd wx 1 (some ⟨wq4.heap.size, 0, none⟩) 1 1 [.slice (some a) 0 c]) ⟨(Below.refl _ _).alloc (Nat.le_refl _) _, rd_lit wq4 #[.slice (some a) 0 c] _ 1 1 rfl (by simp [maxLen])⟩ (fun wq5 HF => ?_)
            have HBQ5 := Lib.hid HF.out.1
            have HR13 := Lib.hid HF.out.2
            clear HF
            refine hK.out _ _ HBQ5.out (fun _ => ?_)
            clear hK K
            try simp only [Act.put, List.setIfInBounds_toArray, List.set_cons_zero, List.set_cons_succ]
            refine wpAnyH_mono (S' := fun w' => Below wq5.heap.size wq5 w') (fun w' h => HBQ5.out.trans (h.mono (by have := HBQ5.out.size; first | exact this | simpa using this))) ?_
            have hHeld : Below wq5.heap.size wq5 wq5 := Below.refl _ _
            refine held_only (i := 14) (by kernel_rfl) rfl (fun K hK => ?_)
            rw [if_pos (by rfl)]
            go_simp
            refine (sum_one _ _ _ _ _ _ wq5 (HR13.out.below (Below.refl _ _)) (HRN.out.below (((((((Below.refl wn.heap.size wn).drew).trans (HBQ1.out.mono ((Below.refl wn.heap.size wn).drew).size)).trans (HBQ2.out.mono (((Below.refl wn.heap.size wn).drew).trans (HBQ1.out.mono ((Below.refl wn.heap.size wn).drew).size)).size)).trans (HBQ3.out.mono ((((Below.refl wn.heap.size wn).drew).trans (HBQ1.out.mono ((Below.refl wn.heap.size wn).drew).size)).trans (HBQ2.out.mono (((Below.refl wn.heap.size wn).drew).trans (HBQ1.out.mono ((Below.refl wn.heap.size wn).drew).size)).size)).size)).trans (HBQ4.out.mono (((((Below.refl wn.heap.size wn).drew).trans (HBQ1.out.mono ((Below.refl wn.heap.size wn).drew).size)).trans (HBQ2.out.mono (((Below.refl wn.heap.size wn).drew).trans (HBQ1.out.mono ((Below.refl wn.heap.size wn).drew).size)).size)).trans (HBQ3.out.mono ((((Below.refl wn.heap.size wn).drew).trans (HBQ1.out.mono ((Below.refl wn.heap.size wn).drew).size)).trans (HBQ2.out.mono (((Below.refl wn.heap.size wn).drew).trans (HBQ1.out.mono ((Below.refl wn.heap.size wn).drew).size)).size)).size)).size)).trans (HBQ5.out.mono ((((((Below.refl wn.heap.size wn).drew).trans (HBQ1.out.mono ((Below.refl wn.heap.size wn).drew).size)).trans (HBQ2.out.mono (((Below.refl wn.heap.size wn).drew).trans (HBQ1.out.mono ((Below.refl wn.heap.size wn).drew).size)).size)).trans (HBQ3.out.mono ((((Below.refl wn.heap.size wn).drew).trans (HBQ1.out.mono ((Below.refl wn.heap.size wn).drew).size)).trans (HBQ2.out.mono (((Below.refl wn.heap.size wn).drew).trans (HBQ1.out.mono ((Below.refl wn.heap.size wn).drew).size)).size)).size)).trans (HBQ4.out.mono (((((Below.refl wn.heap.size wn).drew).trans (HBQ1.out.mono ((Below.refl wn.heap.size wn).drew).size)).trans (HBQ2.out.mono (((Below.refl wn.heap.size wn).drew).trans (HBQ1.out.mono ((Below.refl wn.heap.size wn).drew).size)).size)).trans (HBQ3.out.mono ((((Below.refl wn.heap.size wn).drew).trans (HBQ1.out.mono ((Below.refl wn.heap.size wn).drew).size)).trans (HBQ2.out.mono (((Below.refl wn.heap.size wn).drew).trans (HBQ1.out.mono ((Below.refl wn.heap.size wn).drew).size)).size)).size)).size)).size))) HLEN.out).mono ?_
            rintro e wq6 ⟨A14, c14, rfl, hs14, hb14⟩
            have HS14 := Lib.hid hs14
            have HBQ6 := Lib.hid hb14
            clear hs14 hb14
            go_wp2_with fail
            refine hK.out _ _ HBQ6.out (fun _ => ?_)
            clear hK K
            try simp only [Act.put, List.setIfInBounds_toArray, List.set_cons_zero, List.set_cons_succ]
            refine wpAnyH_mono (S' := fun w' => Below wq6.heap.size wq6 w') (fun w' h => HBQ6.out.trans (h.mono (by have := HBQ6.out.size; first | exact this | simpa using this))) ?_
            have hHeld : Below wq6.heap.size wq6 wq6 := Below.refl _ _
            refine held_yes (i := 15) (v := ?_) rfl (by kernel_rfl) (by kernel_rfl) (by kernel_rfl) (fun _ _ _ h => h) (by rfl) (fun w hSw => ?_) hHeld ?_
            rotate_left
            · have kc := str_of (HS14.out.rd.below hSw); go_simp; try with_reducible rfl
            simp only [List.setIfInBounds_toArray, List.set_cons_zero, List.set_cons_succ]
            refine held_yes (i := 16) (v := ?_) rfl (by kernel_rfl) (by kernel_rfl) (by kernel_rfl) (fun _ _ _ h => h) (by rfl) (fun w hSw => ?_) hHeld ?_
            rotate_left
            · go_simp; try with_reducible rfl
            simp only [List.setIfInBounds_toArray, List.set_cons_zero, List.set_cons_succ]
            refine held_yes (i := 17) (v := ?_) rfl (by kernel_rfl) (by kernel_rfl) (by kernel_rfl) (fun _ _ _ h => h) (by rfl) (fun w hSw => ?_) hHeld ?_
            rotate_left
            · go_simp; try with_reducible rfl
            simp only [List.setIfInBounds_toArray, List.set_cons_zero, List.set_cons_succ]
            refine held_yes (i := 18) (v := ?_) rfl (by kernel_rfl) (by kernel_rfl) (by kernel_rfl) (fun _ _ _ h => h) (by rfl) (fun w hSw => ?_) hHeld ?_
            rotate_left
            · go_simp; try with_reducible rfl
            simp only [List.setIfInBounds_toArray, List.set_cons_zero, List.set_cons_succ]
            refine wpAnyH_done (by kernel_rfl) ?_ _
            go_wp2_with fail
            go_ret
            exact ⟨rfl, ((HB1.out.trans (HTN.out.below.mono HB1.out.size)).trans (((((((((Below.refl wn.heap.size wn).drew).trans (HBQ1.out.mono ((Below.refl wn.heap.size wn).drew).size)).trans (HBQ2.out.mono (((Below.refl wn.heap.size wn).drew).trans (HBQ1.out.mono ((Below.refl wn.heap.size wn).drew).size)).size)).trans (HBQ3.out.mono ((((Below.refl wn.heap.size wn).drew).trans (HBQ1.out.mono ((Below.refl wn.heap.size wn).drew).size)).trans (HBQ2.out.mono (((Below.refl wn.heap.size wn).drew).trans (HBQ1.out.mono ((Below.refl wn.heap.size wn).drew).size)).size)).size)).trans (HBQ4.out.mono (((((Below.refl wn.heap.size wn).drew).trans (HBQ1.out.mono ((Below.refl wn.heap.size wn).drew).size)).trans (HBQ2.out.mono (((Below.refl wn.heap.size wn).drew).trans (HBQ1.out.mono ((Below.refl wn.heap.size wn).drew).size)).size)).trans (HBQ3.out.mono ((((Below.refl wn.heap.size wn).drew).trans (HBQ1.out.mono ((Below.refl wn.heap.size wn).drew).size)).trans (HBQ2.out.mono (((Below.refl wn.heap.size wn).drew).trans (HBQ1.out.mono ((Below.refl wn.heap.size wn).drew).size)).size)).size)).size)).trans (HBQ5.out.mono ((((((Below.refl wn.heap.size wn).drew).trans (HBQ1.out.mono ((Below.refl wn.heap.size wn).drew).size)).trans (HBQ2.out.mono (((Below.refl wn.heap.size wn).drew).trans (HBQ1.out.mono ((Below.refl wn.heap.size wn).drew).size)).size)).trans (HBQ3.out.mono ((((Below.refl wn.heap.size wn).drew).trans (HBQ1.out.mono ((Below.refl wn.heap.size wn).drew).size)).trans (HBQ2.out.mono (((Below.refl wn.heap.size wn).drew).trans (HBQ1.out.mono ((Below.refl wn.heap.size wn).drew).size)).size)).size)).trans (HBQ4.out.mono (((((Below.refl wn.heap.size wn).drew).trans (HBQ1.out.mono ((Below.refl wn.heap.size wn).drew).size)).trans (HBQ2.out.mono (((Below.refl wn.heap.size wn).drew).trans (HBQ1.out.mono ((Below.refl wn.heap.size wn).drew).size)).size)).trans (HBQ3.out.mono ((((Below.refl wn.heap.size wn).drew).trans (HBQ1.out.mono ((Below.refl wn.heap.size wn).drew).size)).trans (HBQ2.out.mono (((Below.refl wn.heap.size wn).drew).trans (HBQ1.out.mono ((Below.refl wn.heap.size wn).drew).size)).size)).size)).size)).size)).trans (HBQ6.out.mono (((((((Below.refl wn.heap.size wn).drew).trans (HBQ1.out.mono ((Below.refl wn.heap.size wn).drew).size)).trans (HBQ2.out.mono (((Below.refl wn.heap.size wn).drew).trans (HBQ1.out.mono ((Below.refl wn.heap.size wn).drew).size)).size)).trans (HBQ3.out.mono ((((Below.refl wn.heap.size wn).drew).trans (HBQ1.out.mono ((Below.refl wn.heap.size wn).drew).size)).trans (HBQ2.out.mono (((Below.refl wn.heap.size wn).drew).trans (HBQ1.out.mono ((Below.refl wn.heap.size wn).drew).size)).size)).size)).trans (HBQ4.out.mono (((((Below.refl wn.heap.size wn).drew).trans (HBQ1.out.mono ((Below.refl wn.heap.size wn).drew).size)).trans (HBQ2.out.mono (((Below.refl wn.heap.size wn).drew).trans (HBQ1.out.mono ((Below.refl wn.heap.size wn).drew).size)).size)).trans (HBQ3.out.mono ((((Below.refl wn.heap.size wn).drew).trans (HBQ1.out.mono ((Below.refl wn.heap.size wn).drew).size)).trans (HBQ2.out.mono (((Below.refl wn.heap.size wn).drew).trans (HBQ1.out.mono ((Below.refl wn.heap.size wn).drew).size)).size)).size)).size)).trans (HBQ5.out.mono ((((((Below.refl wn.heap.size wn).drew).trans (HBQ1.out.mono ((Below.refl wn.heap.size wn).drew).size)).trans (HBQ2.out.mono (((Below.refl wn.heap.size wn).drew).trans (HBQ1.out.mono ((Below.refl wn.heap.size wn).drew).size)).size)).trans (HBQ3.out.mono ((((Below.refl wn.heap.size wn).drew).trans (HBQ1.out.mono ((Below.refl wn.heap.size wn).drew).size)).trans (HBQ2.out.mono (((Below.refl wn.heap.size wn).drew).trans (HBQ1.out.mono ((Below.refl wn.heap.size wn).drew).size)).size)).size)).trans (HBQ4.out.mono (((((Below.refl wn.heap.size wn).drew).trans (HBQ1.out.mono ((Below.refl wn.heap.size wn).drew).size)).trans (HBQ2.out.mono (((Below.refl wn.heap.size wn).drew).trans (HBQ1.out.mono ((Below.refl wn.heap.size wn).drew).size)).size)).trans (HBQ3.out.mono ((((Below.refl wn.heap.size wn).drew).trans (HBQ1.out.mono ((Below.refl wn.heap.size wn).drew).size)).trans (HBQ2.out.mono (((Below.refl wn.heap.size wn).drew).trans (HBQ1.out.mono ((Below.refl wn.heap.size wn).drew).size)).size)).size)).size)).size)).size)).mono HBS.out))⟩
          · skip
            rw [if_pos (by rfl)]
            go_wp2_with fail
            refine world_at (F := fun wx => Below wq3.heap.size wq3 wx ∧ Rd wx 1 (some ⟨wq3.heap.size, 0, none⟩) 1 1 [.slice (some a) 0 c]) ⟨(Below.refl _ _).alloc (Nat.le_refl _) _, rd_lit wq3 #[.slice (some a) 0 c] _ 1 1 rfl (by simp [maxLen])⟩ (fun wq7 HF => ?_)
            have HBQ7 := Lib.hid HF.out.1
            have HR13 := Lib.hid HF.out.2
            clear HF
            refine hK.out _ _ HBQ7.out (fun _ => ?_)
            clear hK K
            try simp only [Act.put, List.setIfInBounds_toArray, List.set_cons_zero, List.set_cons_succ]
            refine wpAnyH_mono (S' := fun w' => Below wq7.heap.size wq7 w') (fun w' h => HBQ7.out.trans (h.mono (by have := HBQ7.out.size; first | exact this | simpa using this))) ?_
            have hHeld : Below wq7.heap.size wq7 wq7 := Below.refl _ _
            refine held_only (i := 10) (by kernel_rfl) rfl (fun K hK => ?_)
            rw [if_pos (by rfl)]
            go_simp
            refine (hsum_live (w1.heap.size + 1) A3 _ wq7 (HTN.out.live2.below ((((((Below.refl wn.heap.size wn).drew).trans (HBQ1.out.mono ((Below.refl wn.heap.size wn).drew).size)).trans (HBQ2.out.mono (((Below.refl wn.heap.size wn).drew).trans (HBQ1.out.mono ((Below.refl wn.heap.size wn).drew).size)).size)).trans (HBQ3.out.mono ((((Below.refl wn.heap.size wn).drew).trans (HBQ1.out.mono ((Below.refl wn.heap.size wn).drew).size)).trans (HBQ2.out.mono (((Below.refl wn.heap.size wn).drew).trans (HBQ1.out.mono ((Below.refl wn.heap.size wn).drew).size)).size)).size)).trans (HBQ7.out.mono (((((Below.refl wn.heap.size wn).drew).trans (HBQ1.out.mono ((Below.refl wn.heap.size wn).drew).size)).trans (HBQ2.out.mono (((Below.refl wn.heap.size wn).drew).trans (HBQ1.out.mono ((Below.refl wn.heap.size wn).drew).size)).size)).trans (HBQ3.out.mono ((((Below.refl wn.heap.size wn).drew).trans (HBQ1.out.mono ((Below.refl wn.heap.size wn).drew).size)).trans (HBQ2.out.mono (((Below.refl wn.heap.size wn).drew).trans (HBQ1.out.mono ((Below.refl wn.heap.size wn).drew).size)).size)).size)).size))) HLEN.out).mono ?_
            rintro e wq8 ⟨A10, c10, rfl, hs10, hb10⟩
            have HS10 := Lib.hid hs10
            have HBQ8 := Lib.hid hb10
            clear hs10 hb10
            go_wp2_with fail
            refine hK.out _ _ HBQ8.out (fun _ => ?_)
            clear hK K
            try simp only [Act.put, List.setIfInBounds_toArray, List.set_cons_zero, List.set_cons_succ]
            refine wpAnyH_mono (S' := fun w' => Below wq8.heap.size wq8 w') (fun w' h => HBQ8.out.trans (h.mono (by have := HBQ8.out.size; first | exact this | simpa using this))) ?_
            have hHeld : Below wq8.heap.size wq8 wq8 := Below.refl _ _
            refine held_yes (i := 11) (v := ?_) rfl (by kernel_rfl) (by kernel_rfl) (by kernel_rfl) (fun _ _ _ h => h) (by rfl) (fun w hSw => ?_) hHeld ?_
            rotate_left
            · have kc := str_of (HS10.out.rd.below hSw); go_simp; try with_reducible rfl
            simp only [List.setIfInBounds_toArray, List.set_cons_zero, List.set_cons_succ]
            refine held_only (i := 14) (by kernel_rfl) rfl (fun K hK => ?_)
            rw [if_pos (by rfl)]
            go_simp
            refine (sum_one _ _ _ _ _ _ wq8 (HR13.out.below HBQ8.out) (HRN.out.below (((((((Below.refl wn.heap.size wn).drew).trans (HBQ1.out.mono ((Below.refl wn.heap.size wn).drew).size)).trans (HBQ2.out.mono (((Below.refl wn.heap.size wn).drew).trans (HBQ1.out.mono ((Below.refl wn.heap.size wn).drew).size)).size)).trans (HBQ3.out.mono ((((Below.refl wn.heap.size wn).drew).trans (HBQ1.out.mono ((Below.refl wn.heap.size wn).drew).size)).trans (HBQ2.out.mono (((Below.refl wn.heap.size wn).drew).trans (HBQ1.out.mono ((Below.refl wn.heap.size wn).drew).size)).size)).size)).trans (HBQ7.out.mono (((((Below.refl wn.heap.size wn).drew).trans (HBQ1.out.mono ((Below.refl wn.heap.size wn).drew).size)).trans (HBQ2.out.mono (((Below.refl wn.heap.size wn).drew).trans (HBQ1.out.mono ((Below.refl wn.heap.size wn).drew).size)).size)).trans (HBQ3.out.mono ((((Below.refl wn.heap.size wn).drew).trans (HBQ1.out.mono ((Below.refl wn.heap.size wn).drew).size)).trans (HBQ2.out.mono (((Below.refl wn.heap.size wn).drew).trans (HBQ1.out.mono ((Below.refl wn.heap.size wn).drew).size)).size)).size)).size)).trans (HBQ8.out.mono ((((((Below.refl wn.heap.size wn).drew).trans (HBQ1.out.mono ((Below.refl wn.heap.size wn).drew).size)).trans (HBQ2.out.mono (((Below.refl wn.heap.size wn).drew).trans (HBQ1.out.mono ((Below.refl wn.heap.size wn).drew).size)).size)).trans (HBQ3.out.mono ((((Below.refl wn.heap.size wn).drew).trans (HBQ1.out.mono ((Below.refl wn.heap.size wn).drew).size)).trans (HBQ2.out.mono (((Below.refl wn.heap.size wn).drew).trans (HBQ1.out.mono ((Below.refl wn.heap.size wn).drew).size)).size)).size)).trans (HBQ7.out.mono (((((Below.refl wn.heap.size wn).drew).trans (HBQ1.out.mono ((Below.refl wn.heap.size wn).drew).size)).trans (HBQ2.out.mono (((Below.refl wn.heap.size wn).drew).trans (HBQ1.out.mono ((Below.refl wn.heap.size wn).drew).size)).size)).trans (HBQ3.out.mono ((((Below.refl wn.heap.size wn).drew).trans (HBQ1.out.mono ((Below.refl wn.heap.size wn).drew).size)).trans (HBQ2.out.mono (((Below.refl wn.heap.size wn).drew).trans (HBQ1.out.mono ((Below.refl wn.heap.size wn).drew).size)).size)).size)).size)).size))) HLEN.out).mono ?_
            rintro e wq9 ⟨A14, c14, rfl, hs14, hb14⟩
            have HS14 := Lib.hid hs14
            have HBQ9 := Lib.hid hb14
            clear hs14 hb14
            go_wp2_with fail
            refine hK.out _ _ HBQ9.out (fun _ => ?_)
            clear hK K
            try simp only [Act.put, List.setIfInBounds_toArray, List.set_cons_zero, List.set_cons_succ]
            refine wpAnyH_mono (S' := fun w' => Below wq9.heap.size wq9 w') (fun w' h => HBQ9.out.trans (h.mono (by have := HBQ9.out.size; first | exact this | simpa using this))) ?_
            have hHeld : Below wq9.heap.size wq9 wq9 := Below.refl _ _
            refine held_yes (i := 15) (v := ?_) rfl (by kernel_rfl) (by kernel_rfl) (by kernel_rfl) (fun _ _ _ h => h) (by rfl) (fun w hSw => ?_) hHeld ?_
            rotate_left
            · have kc := str_of (HS14.out.rd.below hSw); go_simp; try with_reducible rfl
            simp only [List.setIfInBounds_toArray, List.set_cons_zero, List.set_cons_succ]
            refine held_yes (i := 16) (v := ?_) rfl (by kernel_rfl) (by kernel_rfl) (by kernel_rfl) (fun _ _ _ h => h) (by rfl) (fun w hSw => ?_) hHeld ?_
            rotate_left
            · go_simp; try with_reducible rfl
            simp only [List.setIfInBounds_toArray, List.set_cons_zero, List.set_cons_succ]
            refine held_yes (i := 17) (v := ?_) rfl (by kernel_rfl) (by kernel_rfl) (by kernel_rfl) (fun _ _ _ h => h) (by rfl) (fun w hSw => ?_) hHeld ?_
            rotate_left
            · go_simp; try with_reducible rfl
            simp only [List.setIfInBounds_toArray, List.set_cons_zero, List.set_cons_succ]
            refine held_yes (i := 18) (v := ?_) rfl (by kernel_rfl) (by kernel_rfl) (by kernel_rfl) (fun _ _ _ h => h) (by rfl) (fun w hSw => ?_) hHeld ?_
            rotate_left
            · go_simp; try with_reducible rfl
            simp only [List.setIfInBounds_toArray, List.set_cons_zero, List.set_cons_succ]
            refine wpAnyH_done (by kernel_rfl) ?_ _
            go_wp2_with fail
            go_ret
            exact ⟨rfl, ((HB1.out.trans (HTN.out.below.mono HB1.out.size)).trans (((((((((Below.refl wn.heap.size wn).drew).trans (HBQ1.out.mono ((Below.refl wn.heap.size wn).drew).size)).trans (HBQ2.out.mono (((Below.refl wn.heap.size wn).drew).trans (HBQ1.out.mono ((Below.refl wn.heap.size wn).drew).size)).size)).trans (HBQ3.out.mono ((((Below.refl wn.heap.size wn).drew).trans (HBQ1.out.mono ((Below.refl wn.heap.size wn).drew).size)).trans (HBQ2.out.mono (((Below.refl wn.heap.size wn).drew).trans (HBQ1.out.mono ((Below.refl wn.heap.size wn).drew).size)).size)).size)).trans (HBQ7.out.mono (((((Below.refl wn.heap.size wn).drew).trans (HBQ1.out.mono ((Below.refl wn.heap.size wn).drew).size)).trans (HBQ2.out.mono (((Below.refl wn.heap.size wn).drew).trans (HBQ1.out.mono ((Below.refl wn.heap.size wn).drew).size)).size)).trans (HBQ3.out.mono ((((Below.refl wn.heap.size wn).drew).trans (HBQ1.out.mono ((Below.refl wn.heap.size wn).drew).size)).trans (HBQ2.out.mono (((Below.refl wn.heap.size wn).drew).trans (HBQ1.out.mono ((Below.refl wn.heap.size wn).drew).size)).size)).size)).size)).trans (HBQ8.out.mono ((((((Below.refl wn.heap.size wn).drew).trans (HBQ1.out.mono ((Below.refl wn.heap.size wn).drew).size)).trans (HBQ2.out.mono (((Below.refl wn.heap.size wn).drew).trans (HBQ1.out.mono ((Below.refl wn.heap.size wn).drew).size)).size)).trans (HBQ3.out.mono ((((Below.refl wn.heap.size wn).drew).trans (HBQ1.out.mono ((Below.refl wn.heap.size wn).drew).size)).trans (HBQ2.out.mono (((Below.refl wn.heap.size wn).drew).trans (HBQ1.out.mono ((Below.refl wn.heap.size wn).drew).size)).size)).size)).trans (HBQ7.out.mono (((((Below.refl wn.heap.size wn).drew).trans (HBQ1.out.mono ((Below.refl wn.heap.size wn).drew).size)).trans (HBQ2.out.mono (((Below.refl wn.heap.size wn).drew).trans (HBQ1.out.mono ((Below.refl wn.heap.size wn).drew).size)).size)).trans (HBQ3.out.mono ((((Below.refl wn.heap.size wn).drew).trans (HBQ1.out.mono ((Below.refl wn.heap.size wn).drew).size)).trans (HBQ2.out.mono (((Below.refl wn.heap.size wn).drew).trans (HBQ1.out.mono ((Below.refl wn.heap.size wn).drew).size)).size)).size)).size)).size)).trans (HBQ9.out.mono (((((((Below.refl wn.heap.size wn).drew).trans (HBQ1.out.mono ((Below.refl wn.heap.size wn).drew).size)).trans (HBQ2.out.mono (((Below.refl wn.heap.size wn).drew).trans (HBQ1.out.mono ((Below.refl wn.heap.size wn).drew).size)).size)).trans (HBQ3.out.mono ((((Below.refl wn.heap.size wn).drew).trans (HBQ1.out.mono ((Below.refl wn.heap.size wn).drew).size)).trans (HBQ2.out.mono (((Below.refl wn.heap.size wn).drew).trans (HBQ1.out.mono ((Below.refl wn.heap.size wn).drew).size)).size)).size)).trans (HBQ7.out.mono (((((Below.refl wn.heap.size wn).drew).trans (HBQ1.out.mono ((Below.refl wn.heap.size wn).drew).size)).trans (HBQ2.out.mono (((Below.refl wn.heap.size wn).drew).trans (HBQ1.out.mono ((Below.refl wn.heap.size wn).drew).size)).size)).trans (HBQ3.out.mono ((((Below.refl wn.heap.size wn).drew).trans (HBQ1.out.mono ((Below.refl wn.heap.size wn).drew).size)).trans (HBQ2.out.mono (((Below.refl wn.heap.size wn).drew).trans (HBQ1.out.mono ((Below.refl wn.heap.size wn).drew).size)).size)).size)).size)).trans (HBQ8.out.mono ((((((Below.refl wn.heap.size wn).drew).trans (HBQ1.out.mono ((Below.refl wn.heap.size wn).drew).size)).trans (HBQ2.out.mono (((Below.refl wn.heap.size wn).drew).trans (HBQ1.out.mono ((Below.refl wn.heap.size wn).drew).size)).size)).trans (HBQ3.out.mono ((((Below.refl wn.heap.size wn).drew).trans (HBQ1.out.mono ((Below.refl wn.heap.size wn).drew).size)).trans (HBQ2.out.mono (((Below.refl wn.heap.size wn).drew).trans (HBQ1.out.mono ((Below.refl wn.heap.size wn).drew).size)).size)).size)).trans (HBQ7.out.mono (((((Below.refl wn.heap.size wn).drew).trans (HBQ1.out.mono ((Below.refl wn.heap.size wn).drew).size)).trans (HBQ2.out.mono (((Below.refl wn.heap.size wn).drew).trans (HBQ1.out.mono ((Below.refl wn.heap.size wn).drew).size)).size)).trans (HBQ3.out.mono ((((Below.refl wn.heap.size wn).drew).trans (HBQ1.out.mono ((Below.refl wn.heap.size wn).drew).size)).trans (HBQ2.out.mono (((Below.refl wn.heap.size wn).drew).trans (HBQ1.out.mono ((Below.refl wn.heap.size wn).drew).size)).size)).size)).size)).size)).size)).mono HBS.out))⟩
        · skip
          rw [if_pos (by rfl)]
          go_wp2_with fail
          refine world_at (F := fun wx => Below wn.drew.heap.size wn.drew wx ∧ Rd wx 1 (some ⟨wn.drew.heap.size, 0, none⟩) 1 1 [.slice (some a) 0 c]) ⟨(Below.refl _ _).alloc (Nat.le_refl _) _, rd_lit wn.drew #[.slice (some a) 0 c] _ 1 1 rfl (by simp [maxLen])⟩ (fun wq10 HF => ?_)
          have HBQ10 := Lib.hid HF.out.1
          have HR4 := Lib.hid HF.out.2
          clear HF
          refine hK.out _ _ ((Below.refl wn.heap.size wn).drew.trans HBQ10.out) (fun _ => ?_)
          clear hK K
          try simp only [Act.put, List.setIfInBounds_toArray, List.set_cons_zero, List.set_cons_succ]
          refine wpAnyH_mono (S' := fun w' => Below wq10.heap.size wq10 w') (fun w' h => ((Below.refl wn.heap.size wn).drew.trans HBQ10.out).trans (h.mono (by have := HBQ10.out.size; first | exact this | simpa using this))) ?_
          have hHeld : Below wq10.heap.size wq10 wq10 := Below.refl _ _
          refine held_only (i := 1) (by kernel_rfl) rfl (fun K hK => ?_)
          rw [if_pos (by rfl)]
          go_simp
          refine (hsum_live w1.heap.size Ag _ wq10 (HTN.out.live1.below (((Below.refl wn.heap.size wn).drew).trans (HBQ10.out.mono ((Below.refl wn.heap.size wn).drew).size))) HLEN.out).mono ?_
          rintro e wq11 ⟨A1, c1, rfl, hs1, hb1⟩
          have HS1 := Lib.hid hs1
          have HBQ11 := Lib.hid hb1
          clear hs1 hb1
          go_wp2_with fail
          refine hK.out _ _ HBQ11.out (fun _ => ?_)
          clear hK K
          try simp only [Act.put, List.setIfInBounds_toArray, List.set_cons_zero, List.set_cons_succ]
          refine wpAnyH_mono (S' := fun w' => Below wq11.heap.size wq11 w') (fun w' h => HBQ11.out.trans (h.mono (by have := HBQ11.out.size; first | exact this | simpa using this))) ?_
          have hHeld : Below wq11.heap.size wq11 wq11 := Below.refl _ _
          refine held_yes (i := 2) (v := ?_) rfl (by kernel_rfl) (by kernel_rfl) (by kernel_rfl) (fun _ _ _ h => h) (by rfl) (fun w hSw => ?_) hHeld ?_
          rotate_left
          · have kc := str_of (HS1.out.rd.below hSw); go_simp; try with_reducible rfl
          simp only [List.setIfInBounds_toArray, List.set_cons_zero, List.set_cons_succ]
          refine held_only (i := 5) (by kernel_rfl) rfl (fun K hK => ?_)
          rw [if_pos (by rfl)]
          go_simp
          refine (sum_one _ _ _ _ _ _ wq11 (HR4.out.below HBQ11.out) (HRN.out.below ((((Below.refl wn.heap.size wn).drew).trans (HBQ10.out.mono ((Below.refl wn.heap.size wn).drew).size)).trans (HBQ11.out.mono (((Below.refl wn.heap.size wn).drew).trans (HBQ10.out.mono ((Below.refl wn.heap.size wn).drew).size)).size))) HLEN.out).mono ?_
          rintro e wq12 ⟨A5, c5, rfl, hs5, hb5⟩
          have HS5 := Lib.hid hs5
          have HBQ12 := Lib.hid hb5
          clear hs5 hb5
          go_wp2_with fail
          refine hK.out _ _ HBQ12.out (fun _ => ?_)
          clear hK K
          try simp only [Act.put, List.setIfInBounds_toArray, List.set_cons_zero, List.set_cons_succ]
          refine wpAnyH_mono (S' := fun w' => Below wq12.heap.size wq12 w') (fun w' h => HBQ12.out.trans (h.mono (by have := HBQ12.out.size; first | exact this | simpa using this))) ?_
          have hHeld : Below wq12.heap.size wq12 wq12 := Below.refl _ _
          refine held_yes (i := 6) (v := ?_) rfl (by kernel_rfl) (by kernel_rfl) (by kernel_rfl) (fun _ _ _ h => h) (by rfl) (fun w hSw => ?_) hHeld ?_
          rotate_left
          · have kc := str_of (HS5.out.rd.below hSw); go_simp; try with_reducible rfl
          simp only [List.setIfInBounds_toArray, List.set_cons_zero, List.set_cons_succ]
          refine held_yes (i := 7) (v := ?_) rfl (by kernel_rfl) (by kernel_rfl) (by kernel_rfl) (fun _ _ _ h => h) (by rfl) (fun w hSw => ?_) hHeld ?_
          rotate_left
          · go_simp; try with_reducible rfl
          simp only [List.setIfInBounds_toArray, List.set_cons_zero, List.set_cons_succ]
          refine held_yes (i := 8) (v := ?_) rfl (by kernel_rfl) (by kernel_rfl) (by kernel_rfl) (fun _ _ _ h => h) (by rfl) (fun w hSw => ?_) hHeld ?_
          rotate_left
          · go_simp; try with_reducible rfl
          simp only [List.setIfInBounds_toArray, List.set_cons_zero, List.set_cons_succ]
          refine held_yes (i := 9) (v := ?_) rfl (by kernel_rfl) (by kernel_rfl) (by kernel_rfl) (fun _ _ _ h => h) (by rfl) (fun w hSw => ?_) hHeld ?_
          rotate_left
          · go_simp; try with_reducible rfl
          simp only [List.setIfInBounds_toArray, List.set_cons_zero, List.set_cons_succ]
          refine held_yes (i := 12) (v := ?_) rfl (by kernel_rfl) (by kernel_rfl) (by kernel_rfl) (fun _ _ _ h => h) (by rfl) (fun w hSw => ?_) hHeld ?_
          rotate_left
          · go_simp; try with_reducible rfl
          simp only [List.setIfInBounds_toArray, List.set_cons_zero, List.set_cons_succ]
          refine wpAnyH_ready (rs := [10, 13]) (by kernel_rfl) (by simp) (AllReadyH.cons rfl (fun K hK => ?_) (AllReadyH.cons rfl (fun K hK => ?_) AllReadyH.nil))
          · skip
            rw [if_pos (by rfl)]
            go_simp
            refine (hsum_live (w1.heap.size + 1) A3 _ wq12 (HTN.out.live2.below (((((Below.refl wn.heap.size wn).drew).trans (HBQ10.out.mono ((Below.refl wn.heap.size wn).drew).size)).trans (HBQ11.out.mono (((Below.refl wn.heap.size wn).drew).trans (HBQ10.out.mono ((Below.refl wn.heap.size wn).drew).size)).size)).trans (HBQ12.out.mono ((((Below.refl wn.heap.size wn).drew).trans (HBQ10.out.mono ((Below.refl wn.heap.size wn).drew).size)).trans (HBQ11.out.mono (((Below.refl wn.heap.size wn).drew).trans (HBQ10.out.mono ((Below.refl wn.heap.size wn).drew).size)).size)).size))) HLEN.out).mono ?_
            rintro e wq13 ⟨A10, c10, rfl, hs10, hb10⟩
            have HS10 := Lib.hid hs10
            have HBQ13 := Lib.hid hb10
            clear hs10 hb10
            go_wp2_with fail
            refine hK.out _ _ HBQ13.out (fun _ => ?_)
            clear hK K
            try simp only [Act.put, List.setIfInBounds_toArray, List.set_cons_zero, List.set_cons_succ]
            refine wpAnyH_mono (S' := fun w' => Below wq13.heap.size wq13 w') (fun w' h => HBQ13.out.trans (h.mono (by have := HBQ13.out.size; first | exact this | simpa using this))) ?_
            have hHeld : Below wq13.heap.size wq13 wq13 := Below.refl _ _
            refine held_yes (i := 11) (v := ?_) rfl (by kernel_rfl) (by kernel_rfl) (by kernel_rfl) (fun _ _ _ h => h) (by rfl) (fun w hSw => ?_) hHeld ?_
            rotate_left
            · have kc := str_of (HS10.out.rd.below hSw); go_simp; try with_reducible rfl
            simp only [List.setIfInBounds_toArray, List.set_cons_zero, List.set_cons_succ]
            refine held_only (i := 13) (by kernel_rfl) rfl (fun K hK => ?_)
            rw [if_pos (by rfl)]
            go_wp2_with fail
            refine world_at (F := fun wx => Below wq13.heap.size wq13 wx ∧ Rd wx 1 (some ⟨wq13.heap.size, 0, none⟩) 1 1 [.slice (some a) 0 c]) ⟨(Below.refl _ _).alloc (Nat.le_refl _) _, rd_lit wq13 #[.slice (some a) 0 c] _ 1 1 rfl (by simp [maxLen])⟩ (fun wq14 HF => ?_)
            have HBQ14 := Lib.hid HF.out.1
            have HR13 := Lib.hid HF.out.2
            clear HF
            refine hK.out _ _ HBQ14.out (fun _ => ?_)
            clear hK K
            try simp only [Act.put, List.setIfInBounds_toArray, List.set_cons_zero, List.set_cons_succ]
            refine wpAnyH_mono (S' := fun w' => Below wq14.heap.size wq14 w') (fun w' h => HBQ14.out.trans (h.mono (by have := HBQ14.out.size; first | exact this | simpa using this))) ?_
            have hHeld : Below wq14.heap.size wq14 wq14 := Below.refl _ _
            refine held_only (i := 14) (by kernel_rfl) rfl (fun K hK => ?_)
            rw [if_pos (by rfl)]
            go_simp
            refine (sum_one _ _ _ _ _ _ wq14 (HR13.out.below (Below.refl _ _)) (HRN.out.below (((((((Below.refl wn.heap.size wn).drew).trans (HBQ10.out.mono ((Below.refl wn.heap.size wn).drew).size)).trans (HBQ11.out.mono (((Below.refl wn.heap.size wn).drew).trans (HBQ10.out.mono ((Below.refl wn.heap.size wn).drew).size)).size)).trans (HBQ12.out.mono ((((Below.refl wn.heap.size wn).drew).trans (HBQ10.out.mono ((Below.refl wn.heap.size wn).drew).size)).trans (HBQ11.out.mono (((Below.refl wn.heap.size wn).drew).trans (HBQ10.out.mono ((Below.refl wn.heap.size wn).drew).size)).size)).size)).trans (HBQ13.out.mono (((((Below.refl wn.heap.size wn).drew).trans (HBQ10.out.mono ((Below.refl wn.heap.size wn).drew).size)).trans (HBQ11.out.mono (((Below.refl wn.heap.size wn).drew).trans (HBQ10.out.mono ((Below.refl wn.heap.size wn).drew).size)).size)).trans (HBQ12.out.mono ((((Below.refl wn.heap.size wn).drew).trans (HBQ10.out.mono ((Below.refl wn.heap.size wn).drew).size)).trans (HBQ11.out.mono (((Below.refl wn.heap.size wn).drew).trans (HBQ10.out.mono ((Below.refl wn.heap.size wn).drew).size)).size)).size)).size)).trans (HBQ14.out.mono ((((((Below.refl wn.heap.size wn).drew).trans (HBQ10.out.mono ((Below.refl wn.heap.size wn).drew).size)).trans (HBQ11.out.mono (((Below.refl wn.heap.size wn).drew).trans (HBQ10.out.mono ((Below.refl wn.heap.size wn).drew).size)).size)).trans (HBQ12.out.mono ((((Below.refl wn.heap.size wn).drew).trans (HBQ10.out.mono ((Below.refl wn.heap.size wn).drew).size)).trans (HBQ11.out.mono (((Below.refl wn.heap.size wn).drew).trans (HBQ10.out.mono ((Below.refl wn.heap.size wn).drew).size)).size)).size)).trans (HBQ13.out.mono (((((Below.refl wn.heap.size wn).drew).trans (HBQ10.out.mono ((Below.refl wn.heap.size wn).drew).size)).trans (HBQ11.out.mono (((Below.refl wn.heap.size wn).drew).trans (HBQ10.out.mono ((Below.refl wn.heap.size wn).drew).size)).size)).trans (HBQ12.out.mono ((((Below.refl wn.heap.size wn).drew).trans (HBQ10.out.mono ((Below.refl wn.heap.size wn).drew).size)).trans (HBQ11.out.mono (((Below.refl wn.heap.size wn).drew).trans (HBQ10.out.mono ((Below.refl wn.heap.size wn).drew).size)).size)).size)).size)).size))) HLEN.out).mono ?_
            rintro e wq15 ⟨A14, c14, rfl, hs14, hb14⟩
            have HS14 := Lib.hid hs14
            have HBQ15 := Lib.hid hb14
            clear hs14 hb14
            go_wp2_with fail
            refine hK.out _ _ HBQ15.out (fun _ => ?_)
            clear hK K
            try simp only [Act.put, List.setIfInBounds_toArray, List.set_cons_zero, List.set_cons_succ]
            refine wpAnyH_mono (S' := fun w' => Below wq15.heap.size wq15 w') (fun w' h => HBQ15.out.trans (h.mono (by have := HBQ15.out.size; first | exact this | simpa using this))) ?_
            have hHeld : Below wq15.heap.size wq15 wq15 := Below.refl _ _
            refine held_yes (i := 15) (v := ?_) rfl (by kernel_rfl) (by kernel_rfl) (by kernel_rfl) (fun _ _ _ h => h) (by rfl) (fun w hSw => ?_) hHeld ?_
            rotate_left
            · have kc := str_of (HS14.out.rd.below hSw); go_simp; try with_reducible rfl
            simp only [List.setIfInBounds_toArray, List.set_cons_zero, List.set_cons_succ]
            refine held_yes (i := 16) (v := ?_) rfl (by kernel_rfl) (by kernel_rfl) (by kernel_rfl) (fun _ _ _ h => h) (by rfl) (fun w hSw => ?_) hHeld ?_
            rotate_left
            · go_simp; try with_reducible rfl
            simp only [List.setIfInBounds_toArray, List.set_cons_zero, List.set_cons_succ]
            refine held_yes (i := 17) (v := ?_) rfl (by kernel_rfl) (by kernel_rfl) (by kernel_rfl) (fun _ _ _ h => h) (by rfl) (fun w hSw => ?_) hHeld ?_
            rotate_left
            · go_simp; try with_reducible rfl
            simp only [List.setIfInBounds_toArray, List.set_cons_zero, List.set_cons_succ]
            refine held_yes (i := 18) (v := ?_) rfl (by kernel_rfl) (by kernel_rfl) (by kernel_rfl) (fun _ _ _ h => h) (by rfl) (fun w hSw => ?_) hHeld ?_
            rotate_left
            · go_simp; try with_reducible rfl
            simp only [List.setIfInBounds_toArray, List.set_cons_zero, List.set_cons_succ]
            refine wpAnyH_done (by kernel_rfl) ?_ _
            go_wp2_with fail
            go_ret
            exact ⟨rfl, ((HB1.out.trans (HTN.out.below.mono HB1.out.size)).trans (((((((((Below.refl wn.heap.size wn).drew).trans (HBQ10.out.mono ((Below.refl wn.heap.size wn).drew).size)).trans (HBQ11.out.mono (((Below.refl wn.heap.size wn).drew).trans (HBQ10.out.mono ((Below.refl wn.heap.size wn).drew).size)).size)).trans (HBQ12.out.mono ((((Below.refl wn.heap.size wn).drew).trans (HBQ10.out.mono ((Below.refl wn.heap.size wn).drew).size)).trans (HBQ11.out.mono (((Below.refl wn.heap.size wn).drew).trans (HBQ10.out.mono ((Below.refl wn.heap.size wn).drew).size)).size)).size)).trans (HBQ13.out.mono (((((Below.refl wn.heap.size wn).drew).trans (HBQ10.out.mono ((Below.refl wn.heap.size wn).drew).size)).trans (HBQ11.out.mono (((Below.refl wn.heap.size wn).drew).trans (HBQ10.out.mono ((Below.refl wn.heap.size wn).drew).size)).size)).trans (HBQ12.out.mono ((((Below.refl wn.heap.size wn).drew).trans (HBQ10.out.mono ((Below.refl wn.heap.size wn).drew).size)).trans (HBQ11.out.mono (((Below.refl wn.heap.size wn).drew).trans (HBQ10.out.mono ((Below.refl wn.heap.size wn).drew).size)).size)).size)).size)).trans (HBQ14.out.mono ((((((Below.refl wn.heap.size wn).drew).trans (HBQ10.out.mono ((Below.refl wn.heap.size wn).drew).size)).trans (HBQ11.out.mono (((Below.refl wn.heap.size wn).drew).trans (HBQ10.out.mono ((Below.refl wn.heap.size wn).drew).size)).size)).trans (HBQ12.out.mono ((((Below.refl wn.heap.size wn).drew).trans (HBQ10.out.mono ((Below.refl wn.heap.size wn).drew).size)).trans (HBQ11.out.mono (((Below.refl wn.heap.size wn).drew).trans (HBQ10.out.mono ((Below.refl wn.heap.size wn).drew).size)).size)).size)).trans (HBQ13.out.mono (((((Below.refl wn.heap.size wn).drew).trans (HBQ10.out.mono ((Below.refl wn.heap.size wn).drew).size)).trans (HBQ11.out.mono (((Below.refl wn.heap.size wn).drew).trans (HBQ10.out.mono ((Below.refl wn.heap.size wn).drew).size)).size)).trans (HBQ12.out.mono ((((Below.refl wn.heap.size wn).drew).trans (HBQ10.out.mono ((Below.refl wn.heap.size wn).drew).size)).trans (HBQ11.out.mono (((Below.refl wn.heap.size wn).drew).trans (HBQ10.out.mono ((Below.refl wn.heap.size wn).drew).size)).size)).size)).size)).size)).trans (HBQ15.out.mono (((((((Below.refl wn.heap.size wn).drew).trans (HBQ10.out.mono ((Below.refl wn.heap.size wn).drew).size)).trans (HBQ11.out.mono (((Below.refl wn.heap.size wn).drew).trans (HBQ10.out.mono ((Below.refl wn.heap.size wn).drew).size)).size)).trans (HBQ12.out.mono ((((Below.refl wn.heap.size wn).drew).trans (HBQ10.out.mono ((Below.refl wn.heap.size wn).drew).size)).trans (HBQ11.out.mono (((Below.refl wn.heap.size wn).drew).trans (HBQ10.out.mono ((Below.refl wn.heap.size wn).drew).size)).size)).size)).trans (HBQ13.out.mono (((((Below.refl wn.heap.size wn).drew).trans (HBQ10.out.mono ((Below.refl wn.heap.size wn).drew).size)).trans (HBQ11.out.mono (((Below.refl wn.heap.size wn).drew).trans (HBQ10.out.mono ((Below.refl wn.heap.size wn).drew).size)).size)).trans (HBQ12.out.mono ((((Below.refl wn.heap.size wn).drew).trans (HBQ10.out.mono ((Below.refl wn.heap.size wn).drew).size)).trans (HBQ11.out.mono (((Below.refl wn.heap.size wn).drew).trans (HBQ10.out.mono ((Below.refl wn.heap.size wn).drew).size)).size)).size)).size)).trans (HBQ14.out.mono ((((((Below.refl wn.heap.size wn).drew).trans (HBQ10.out.mono ((Below.refl wn.heap.size wn).drew).size)).trans (HBQ11.out.mono (((Below.refl wn.heap.size wn).drew).trans (HBQ10.out.mono ((Below.refl wn.heap.size wn).drew).size)).size)).trans (HBQ12.out.mono ((((Below.refl wn.heap.size wn).drew).trans (HBQ10.out.mono ((Below.refl wn.heap.size wn).drew).size)).trans (HBQ11.out.mono (((Below.refl wn.heap.size wn).drew).trans (HBQ10.out.mono ((Below.refl wn.heap.size wn).drew).size)).size)).size)).trans (HBQ13.out.mono (((((Below.refl wn.heap.size wn).drew).trans (HBQ10.out.mono ((Below.refl wn.heap.size wn).drew).size)).trans (HBQ11.out.mono (((Below.refl wn.heap.size wn).drew).trans (HBQ10.out.mono ((Below.refl wn.heap.size wn).drew).size)).size)).trans (HBQ12.out.mono ((((Below.refl wn.heap.size wn).drew).trans (HBQ10.out.mono ((Below.refl wn.heap.size wn).drew).size)).trans (HBQ11.out.mono (((Below.refl wn.heap.size wn).drew).trans (HBQ10.out.mono ((Below.refl wn.heap.size wn).drew).size)).size)).size)).size)).size)).size)).mono HBS.out))⟩
          · skip
            rw [if_pos (by rfl)]
            go_wp2_with fail
            refine world_at (F := fun wx => Below wq12.heap.size wq12 wx ∧ Rd wx 1 (some ⟨wq12.heap.size, 0, none⟩) 1 1 [.slice (some a) 0 c]) ⟨(Below.refl _ _).alloc (Nat.le_refl _) _, rd_lit wq12 #[.slice (some a) 0 c] _ 1 1 rfl (by simp [maxLen])⟩ (fun wq16 HF => ?_)
            have HBQ16 := Lib.hid HF.out.1
            have HR13 := Lib.hid HF.out.2
            clear HF
            refine hK.out _ _ HBQ16.out (fun _ => ?_)
            clear hK K
            try simp only [Act.put, List.setIfInBounds_toArray, List.set_cons_zero, List.set_cons_succ]
            refine wpAnyH_mono (S' := fun w' => Below wq16.heap.size wq16 w') (fun w' h => HBQ16.out.trans (h.mono (by have := HBQ16.out.size; first | exact this | simpa using this))) ?_
            have hHeld : Below wq16.heap.size wq16 wq16 := Below.refl _ _
            refine held_only (i := 10) (by kernel_rfl) rfl (fun K hK => ?_)
            rw [if_pos (by rfl)]
            go_simp
            refine (hsum_live (w1.heap.size + 1) A3 _ wq16 (HTN.out.live2.below ((((((Below.refl wn.heap.size wn).drew).trans (HBQ10.out.mono ((Below.refl wn.heap.size wn).drew).size)).trans (HBQ11.out.mono (((Below.refl wn.heap.size wn).drew).trans (HBQ10.out.mono ((Below.refl wn.heap.size wn).drew).size)).size)).trans (HBQ12.out.mono ((((Below.refl wn.heap.size wn).drew).trans (HBQ10.out.mono ((Below.refl wn.heap.size wn).drew).size)).trans (HBQ11.out.mono (((Below.refl wn.heap.size wn).drew).trans (HBQ10.out.mono ((Below.refl wn.heap.size wn).drew).size)).size)).size)).trans (HBQ16.out.mono (((((Below.refl wn.heap.size wn).drew).trans (HBQ10.out.mono ((Below.refl wn.heap.size wn).drew).size)).trans (HBQ11.out.mono (((Below.refl wn.heap.size wn).drew).trans (HBQ10.out.mono ((Below.refl wn.heap.size wn).drew).size)).size)).trans (HBQ12.out.mono ((((Below.refl wn.heap.size wn).drew).trans (HBQ10.out.mono ((Below.refl wn.heap.size wn).drew).size)).trans (HBQ11.out.mono (((Below.refl wn.heap.size wn).drew).trans (HBQ10.out.mono ((Below.refl wn.heap.size wn).drew).size)).size)).size)).size))) HLEN.out).mono ?_
            rintro e wq17 ⟨A10, c10, rfl, hs10, hb10⟩
            have HS10 := Lib.hid hs10
            have HBQ17 := Lib.hid hb10
            clear hs10 hb10
            go_wp2_with fail
            refine hK.out _ _ HBQ17.out (fun _ => ?_)
            clear hK K
            try simp only [Act.put, List.setIfInBounds_toArray, List.set_cons_zero, List.set_cons_succ]
            refine wpAnyH_mono (S' := fun w' => Below wq17.heap.size wq17 w') (fun w' h => HBQ17.out.trans (h.mono (by have := HBQ17.out.size; first | exact this | simpa using this))) ?_
            have hHeld : Below wq17.heap.size wq17 wq17 := Below.refl _ _
            refine held_yes (i := 11) (v := ?_) rfl (by kernel_rfl) (by kernel_rfl) (by kernel_rfl) (fun _ _ _ h => h) (by rfl) (fun w hSw => ?_) hHeld ?_
            rotate_left
            · have kc := str_of (HS10.out.rd.below hSw); go_simp; try with_reducible rfl
            simp only [List.setIfInBounds_toArray, List.set_cons_zero, List.set_cons_succ]
            refine held_only (i := 14) (by kernel_rfl) rfl (fun K hK => ?_)
            rw [if_pos (by rfl)]
            go_simp
            refine (sum_one _ _ _ _ _ _ wq17 (HR13.out.below HBQ17.out) (HRN.out.below (((((((Below.refl wn.heap.size wn).drew).trans (HBQ10.out.mono ((Below.refl wn.heap.size wn).drew).size)).trans (HBQ11.out.mono (((Below.refl wn.heap.size wn).drew).trans (HBQ10.out.mono ((Below.refl wn.heap.size wn).drew).size)).size)).trans (HBQ12.out.mono ((((Below.refl wn.heap.size wn).drew).trans (HBQ10.out.mono ((Below.refl wn.heap.size wn).drew).size)).trans (HBQ11.out.mono (((Below.refl wn.heap.size wn).drew).trans (HBQ10.out.mono ((Below.refl wn.heap.size wn).drew).size)).size)).size)).trans (HBQ16.out.mono (((((Below.refl wn.heap.size wn).drew).trans (HBQ10.out.mono ((Below.refl wn.heap.size wn).drew).size)).trans (HBQ11.out.mono (((Below.refl wn.heap.size wn).drew).trans (HBQ10.out.mono ((Below.refl wn.heap.size wn).drew).size)).size)).trans (HBQ12.out.mono ((((Below.refl wn.heap.size wn).drew).trans (HBQ10.out.mono ((Below.refl wn.heap.size wn).drew).size)).trans (HBQ11.out.mono (((Below.refl wn.heap.size wn).drew).trans (HBQ10.out.mono ((Below.refl wn.heap.size wn).drew).size)).size)).size)).size)).trans (HBQ17.out.mono ((((((Below.refl wn.heap.size wn).drew).trans (HBQ10.out.mono ((Below.refl wn.heap.size wn).drew).size)).trans (HBQ11.out.mono (((Below.refl wn.heap.size wn).drew).trans (HBQ10.out.mono ((Below.refl wn.heap.size wn).drew).size)).size)).trans (HBQ12.out.mono ((((Below.refl wn.heap.size wn).drew).trans (HBQ10.out.mono ((Below.refl wn.heap.size wn).drew).size)).trans (HBQ11.out.mono (((Below.refl wn.heap.size wn).drew).trans (HBQ10.out.mono ((Below.refl wn.heap.size wn).drew).size)).size)).size)).trans (HBQ16.out.mono (((((Below.refl wn.heap.size wn).drew).trans (HBQ10.out.mono ((Below.refl wn.heap.size wn).drew).size)).trans (HBQ11.out.mono (((Below.refl wn.heap.size wn).drew).trans (HBQ10.out.mono ((Below.refl wn.heap.size wn).drew).size)).size)).trans (HBQ12.out.mono ((((Below.refl wn.heap.size wn).drew).trans (HBQ10.out.mono ((Below.refl wn.heap.size wn).drew).size)).trans (HBQ11.out.mono (((Below.refl wn.heap.size wn).drew).trans (HBQ10.out.mono ((Below.refl wn.heap.size wn).drew).size)).size)).size)).size)).size))) HLEN.out).mono ?_
            rintro e wq18 ⟨A14, c14, rfl, hs14, hb14⟩
            have HS14 := Lib.hid hs14
            have HBQ18 := Lib.hid hb14
            clear hs14 hb14
            go_wp2_with fail
            refine hK.out _ _ HBQ18.out (fun _ => ?_)
            clear hK K
            try simp only [Act.put, List.setIfInBounds_toArray, List.set_cons_zero, List.set_cons_succ]
            refine wpAnyH_mono (S' := fun w' => Below wq18.heap.size wq18 w') (fun w' h => HBQ18.out.trans (h.mono (by have := HBQ18.out.size; first | exact this | simpa using this))) ?_
            have hHeld : Below wq18.heap.size wq18 wq18 := Below.refl _ _
            refine held_yes (i := 15) (v := ?_) rfl (by kernel_rfl) (by kernel_rfl) (by kernel_rfl) (fun _ _ _ h => h) (by rfl) (fun w hSw => ?_) hHeld ?_
            rotate_left
            · have kc := str_of (HS14.out.rd.below hSw); go_simp; try with_reducible rfl
            simp only [List.setIfInBounds_toArray, List.set_cons_zero, List.set_cons_succ]
            refine held_yes (i := 16) (v := ?_) rfl (by kernel_rfl) (by kernel_rfl) (by kernel_rfl) (fun _ _ _ h => h) (by rfl) (fun w hSw => ?_) hHeld ?_
            rotate_left
            · go_simp; try with_reducible rfl
            simp only [List.setIfInBounds_toArray, List.set_cons_zero, List.set_cons_succ]
            refine held_yes (i := 17) (v := ?_) rfl (by kernel_rfl) (by kernel_rfl) (by kernel_rfl) (fun _ _ _ h => h) (by rfl) (fun w hSw => ?_) hHeld ?_
            rotate_left
            · go_simp; try with_reducible rfl
            simp only [List.setIfInBounds_toArray, List.set_cons_zero, List.set_cons_succ]
            refine held_yes (i := 18) (v := ?_) rfl (by kernel_rfl) (by kernel_rfl) (by kernel_rfl) (fun _ _ _ h => h) (by rfl) (fun w hSw => ?_) hHeld ?_
            rotate_left
            · go_simp; try with_reducible rfl
            simp only [List.setIfInBounds_toArray, List.set_cons_zero, List.set_cons_succ]
            refine wpAnyH_done (by kernel_rfl) ?_ _
            go_wp2_with fail
            go_ret
            exact ⟨rfl, ((HB1.out.trans (HTN.out.below.mono HB1.out.size)).trans (((((((((Below.refl wn.heap.size wn).drew).trans (HBQ10.out.mono ((Below.refl wn.heap.size wn).drew).size)).trans (HBQ11.out.mono (((Below.refl wn.heap.size wn).drew).trans (HBQ10.out.mono ((Below.refl wn.heap.size wn).drew).size)).size)).trans (HBQ12.out.mono ((((Below.refl wn.heap.size wn).drew).trans (HBQ10.out.mono ((Below.refl wn.heap.size wn).drew).size)).trans (HBQ11.out.mono (((Below.refl wn.heap.size wn).drew).trans (HBQ10.out.mono ((Below.refl wn.heap.size wn).drew).size)).size)).size)).trans (HBQ16.out.mono (((((Below.refl wn.heap.size wn).drew).trans (HBQ10.out.mono ((Below.refl wn.heap.size wn).drew).size)).trans (HBQ11.out.mono (((Below.refl wn.heap.size wn).drew).trans (HBQ10.out.mono ((Below.refl wn.heap.size wn).drew).size)).size)).trans (HBQ12.out.mono ((((Below.refl wn.heap.size wn).drew).trans (HBQ10.out.mono ((Below.refl wn.heap.size wn).drew).size)).trans (HBQ11.out.mono (((Below.refl wn.heap.size wn).drew).trans (HBQ10.out.mono ((Below.refl wn.heap.size wn).drew).size)).size)).size)).size)).trans (HBQ17.out.mono ((((((Below.refl wn.heap.size wn).drew).trans (HBQ10.out.mono ((Below.refl wn.heap.size wn).drew).size)).trans (HBQ11.out.mono (((Below.refl wn.heap.size wn).drew).trans (HBQ10.out.mono ((Below.refl wn.heap.size wn).drew).size)).size)).trans (HBQ12.out.mono ((((Below.refl wn.heap.size wn).drew).trans (HBQ10.out.mono ((Below.refl wn.heap.size wn).drew).size)).trans (HBQ11.out.mono (((Below.refl wn.heap.size wn).drew).trans (HBQ10.out.mono ((Below.refl wn.heap.size wn).drew).size)).size)).size)).trans (HBQ16.out.mono (((((Below.refl wn.heap.size wn).drew).trans (HBQ10.out.mono ((Below.refl wn.heap.size wn).drew).size)).trans (HBQ11.out.mono (((Below.refl wn.heap.size wn).drew).trans (HBQ10.out.mono ((Below.refl wn.heap.size wn).drew).size)).size)).trans (HBQ12.out.mono ((((Below.refl wn.heap.size wn).drew).trans (HBQ10.out.mono ((Below.refl wn.heap.size wn).drew).size)).trans (HBQ11.out.mono (((Below.refl wn.heap.size wn).drew).trans (HBQ10.out.mono ((Below.refl wn.heap.size wn).drew).size)).size)).size)).size)).size)).trans (HBQ18.out.mono (((((((Below.refl wn.heap.size wn).drew).trans (HBQ10.out.mono ((Below.refl wn.heap.size wn).drew).size)).trans (HBQ11.out.mono (((Below.refl wn.heap.size wn).drew).trans (HBQ10.out.mono ((Below.refl wn.heap.size wn).drew).size)).size)).trans (HBQ12.out.mono ((((Below.refl wn.heap.size wn).drew).trans (HBQ10.out.mono ((Below.refl wn.heap.size wn).drew).size)).trans (HBQ11.out.mono (((Below.refl wn.heap.size wn).drew).trans (HBQ10.out.mono ((Below.refl wn.heap.size wn).drew).size)).size)).size)).trans (HBQ16.out.mono (((((Below.refl wn.heap.size wn).drew).trans (HBQ10.out.mono ((Below.refl wn.heap.size wn).drew).size)).trans (HBQ11.out.mono (((Below.refl wn.heap.size wn).drew).trans (HBQ10.out.mono ((Below.refl wn.heap.size wn).drew).size)).size)).trans (HBQ12.out.mono ((((Below.refl wn.heap.size wn).drew).trans (HBQ10.out.mono ((Below.refl wn.heap.size wn).drew).size)).trans (HBQ11.out.mono (((Below.refl wn.heap.size wn).drew).trans (HBQ10.out.mono ((Below.refl wn.heap.size wn).drew).size)).size)).size)).size)).trans (HBQ17.out.mono ((((((Below.refl wn.heap.size wn).drew).trans (HBQ10.out.mono ((Below.refl wn.heap.size wn).drew).size)).trans (HBQ11.out.mono (((Below.refl wn.heap.size wn).drew).trans (HBQ10.out.mono ((Below.refl wn.heap.size wn).drew).size)).size)).trans (HBQ12.out.mono ((((Below.refl wn.heap.size wn).drew).trans (HBQ10.out.mono ((Below.refl wn.heap.size wn).drew).size)).trans (HBQ11.out.mono (((Below.refl wn.heap.size wn).drew).trans (HBQ10.out.mono ((Below.refl wn.heap.size wn).drew).size)).size)).size)).trans (HBQ16.out.mono (((((Below.refl wn.heap.size wn).drew).trans (HBQ10.out.mono ((Below.refl wn.heap.size wn).drew).size)).trans (HBQ11.out.mono (((Below.refl wn.heap.size wn).drew).trans (HBQ10.out.mono ((Below.refl wn.heap.size wn).drew).size)).size)).trans (HBQ12.out.mono ((((Below.refl wn.heap.size wn).drew).trans (HBQ10.out.mono ((Below.refl wn.heap.size wn).drew).size)).trans (HBQ11.out.mono (((Below.refl wn.heap.size wn).drew).trans (HBQ10.out.mono ((Below.refl wn.heap.size wn).drew).size)).size)).size)).size)).size)).size)).mono HBS.out))⟩
       case inr =>
        obtain ⟨b, o, hA, _⟩ := HR.out.at_ (by omega)
        cases hA
        have HBN : Hid (b < w.heap.size) := Lib.hid (HR.out.lt (by omega) (by decide) _ rfl)
        have HRT := Lib.hid (HR.out.take (k := K) hKn)
        have HL1 : Hid ((bs.take K).length + (bs.drop K).length = k) := Lib.hid (by simp; omega)
        have HNE : Hid (∀ (p : Nat) (w' : World), w.heap.size ≤ w'.heap.size → ∀ a : Addr, some (⟨b, p, none⟩ : Addr) = some a → a.block ≠ w'.heap.size + 1) := Lib.hid (fun p w' h a ha e => by have := HBN.out; cases ha; simp at e; omega)
        by_cases hcK : c = K
        case pos =>
         obtain rfl : K = k := by omega
         obtain rfl : c = K := by omega
         have HR0 : ∀ w', Rd w' 1 (some ⟨b, o, none⟩) 0 0 (bvs []) := fun w' => ⟨rfl, by omega, by simp, fun e => (by cases e), .inl rfl⟩
         have HR0H := Lib.hid HR0
         clear HR0
         have HWA := Lib.hid (write_live (w1.heap.size + 1) none [] bs (some ⟨b, o, none⟩) c c wr HTC.out.live2 (HR.out.below HBW.out) (fun _ => HNE.out o w1 HB1.out.size) (by simp only [List.length_nil]; omega))
         go_wp2_with (first | (refine HWA.out.mono ?_; rintro e wm ⟨rfl, A2, hl2, ht2, ha2⟩; have HTM := Lib.hid (HTC.out.swap.wrote hl2 ht2 ha2); clear hl2 ht2 ha2 HWA; have HWB := Lib.hid (write_live (w1.heap.size + 1) A2 ([] ++ bs) [] (some ⟨b, o, none⟩) 0 0 wm HTM.out.live1 (HR0H.out _) (fun h => by omega) (by simp; omega))) | (refine HWB.out.mono ?_; rintro e wn ⟨rfl, A3, hl2, ht2, ha2⟩; have HTN := Lib.hid (HTM.out.wrote hl2 ht2 ha2).swap; clear hl2 ht2 ha2 HWB))
         rw [show ([] : List UInt8) ++ bs ++ [] = bs by simp] at HTN
         have HRN := Lib.hid (HR.out.below (HB1.out.trans (HTN.out.below.mono HB1.out.size)))
         have HBS : Hid (w.heap.size ≤ wn.heap.size) := Lib.hid (HB1.out.trans (HTN.out.below.mono HB1.out.size)).size
         refine wp_region_held_drew (S := fun w' => Below wn.heap.size wn w') (by kernel_rfl) ((Below.refl _ _).drew) (fun hHeld => ?_)
         refine held_yes (i := 0) (v := ?_) rfl (by kernel_rfl) (by kernel_rfl) (by kernel_rfl) (fun _ _ _ h => h) (by rfl) (fun w hSw => ?_) hHeld ?_
         rotate_left
         · go_simp; try with_reducible rfl
         simp only [List.setIfInBounds_toArray, List.set_cons_zero, List.set_cons_succ]
         refine held_yes (i := 3) (v := ?_) rfl (by kernel_rfl) (by kernel_rfl) (by kernel_rfl) (fun _ _ _ h => h) (by rfl) (fun w hSw => ?_) hHeld ?_
         rotate_left
         · go_simp; try with_reducible rfl
         simp only [List.setIfInBounds_toArray, List.set_cons_zero, List.set_cons_succ]
         refine wpAnyH_ready (rs := [1, 4]) (by kernel_rfl) (by simp) (AllReadyH.cons rfl (fun K hK => ?_) (AllReadyH.cons rfl (fun K hK => ?_) AllReadyH.nil))
         · skip
           rw [if_pos (by rfl)]
           go_simp
           refine (hsum_live w1.heap.size Ag _ wn.drew (HTN.out.live1.below ((Below.refl wn.heap.size wn).drew)) HLEN.out).mono ?_
           rintro e wq1 ⟨A1, c1, rfl, hs1, hb1⟩
           have HS1 := Lib.hid hs1
           have HBQ1 := Lib.hid hb1
           clear hs1 hb1
           go_wp2_with fail
           refine hK.out _ _ ((Below.refl wn.heap.size wn).drew.trans HBQ1.out) (fun _ => ?_)
           clear hK K
           try simp only [Act.put, List.setIfInBounds_toArray, List.set_cons_zero, List.set_cons_succ]
           refine wpAnyH_mono (S' := fun w' => Below wq1.heap.size wq1 w') (fun w' h => ((Below.refl wn.heap.size wn).drew.trans HBQ1.out).trans (h.mono (by have := HBQ1.out.size; first | exact this | simpa using this))) ?_
           have hHeld : Below wq1.heap.size wq1 wq1 := Below.refl _ _
           refine held_yes (i := 2) (v := ?_) rfl (by kernel_rfl) (by kernel_rfl) (by kernel_rfl) (fun _ _ _ h => h) (by rfl) (fun w hSw => ?_) hHeld ?_
           rotate_left
           · have kc := str_of (HS1.out.rd.below hSw); go_simp; try with_reducible rfl
           simp only [List.setIfInBounds_toArray, List.set_cons_zero, List.set_cons_succ]
           refine held_only (i := 4) (by kernel_rfl) rfl (fun K hK => ?_)
           rw [if_pos (by rfl)]
           go_wp2_with fail
           refine world_at (F := fun wx => Below wq1.heap.size wq1 wx ∧ Rd wx 1 (some ⟨wq1.heap.size, 0, none⟩) 1 1 [.slice (some ⟨b, o, none⟩) c c]) ⟨(Below.refl _ _).alloc (Nat.le_refl _) _, rd_lit wq1 #[.slice (some ⟨b, o, none⟩) c c] _ 1 1 rfl (by simp [maxLen])⟩ (fun wq2 HF => ?_)
           have HBQ2 := Lib.hid HF.out.1
           have HR4 := Lib.hid HF.out.2
           clear HF
           refine hK.out _ _ HBQ2.out (fun _ => ?_)
           clear hK K
           try simp only [Act.put, List.setIfInBounds_toArray, List.set_cons_zero, List.set_cons_succ]
           refine wpAnyH_mono (S' := fun w' => Below wq2.heap.size wq2 w') (fun w' h => HBQ2.out.trans (h.mono (by have := HBQ2.out.size; first | exact this | simpa using this))) ?_
           have hHeld : Below wq2.heap.size wq2 wq2 := Below.refl _ _
           refine held_only (i := 5) (by kernel_rfl) rfl (fun K hK => ?_)
           rw [if_pos (by rfl)]
           go_simp
           refine (sum_one _ _ _ _ _ _ wq2 (HR4.out.below (Below.refl _ _)) (HRN.out.below ((((Below.refl wn.heap.size wn).drew).trans (HBQ1.out.mono ((Below.refl wn.heap.size wn).drew).size)).trans (HBQ2.out.mono (((Below.refl wn.heap.size wn).drew).trans (HBQ1.out.mono ((Below.refl wn.heap.size wn).drew).size)).size))) HLEN.out).mono ?_
           rintro e wq3 ⟨A5, c5, rfl, hs5, hb5⟩
           have HS5 := Lib.hid hs5
           have HBQ3 := Lib.hid hb5
           clear hs5 hb5
           go_wp2_with fail
           refine hK.out _ _ HBQ3.out (fun _ => ?_)
           clear hK K
           try simp only [Act.put, List.setIfInBounds_toArray, List.set_cons_zero, List.set_cons_succ]
           refine wpAnyH_mono (S' := fun w' => Below wq3.heap.size wq3 w') (fun w' h => HBQ3.out.trans (h.mono (by have := HBQ3.out.size; first | exact this | simpa using this))) ?_
           have hHeld : Below wq3.heap.size wq3 wq3 := Below.refl _ _
           refine held_yes (i := 6) (v := ?_) rfl (by kernel_rfl) (by kernel_rfl) (by kernel_rfl) (fun _ _ _ h => h) (by rfl) (fun w hSw => ?_) hHeld ?_
           rotate_left
           · have kc := str_of (HS5.out.rd.below hSw); go_simp; try with_reducible rfl
           simp only [List.setIfInBounds_toArray, List.set_cons_zero, List.set_cons_succ]
           refine held_yes (i := 7) (v := ?_) rfl (by kernel_rfl) (by kernel_rfl) (by kernel_rfl) (fun _ _ _ h => h) (by rfl) (fun w hSw => ?_) hHeld ?_
           rotate_left
           · go_simp; try with_reducible rfl
           simp only [List.setIfInBounds_toArray, List.set_cons_zero, List.set_cons_succ]
           refine held_yes (i := 8) (v := ?_) rfl (by kernel_rfl) (by kernel_rfl) (by kernel_rfl) (fun _ _ _ h => h) (by rfl) (fun w hSw => ?_) hHeld ?_
           rotate_left
           · go_simp; try with_reducible rfl
           simp only [List.setIfInBounds_toArray, List.set_cons_zero, List.set_cons_succ]
           refine held_yes (i := 9) (v := ?_) rfl (by kernel_rfl) (by kernel_rfl) (by kernel_rfl) (fun _ _ _ h => h) (by rfl) (fun w hSw => ?_) hHeld ?_
           rotate_left
           · go_simp; try with_reducible rfl
           simp only [List.setIfInBounds_toArray, List.set_cons_zero, List.set_cons_succ]
           refine held_yes (i := 12) (v := ?_) rfl (by kernel_rfl) (by kernel_rfl) (by kernel_rfl) (fun _ _ _ h => h) (by rfl) (fun w hSw => ?_) hHeld ?_
           rotate_left
           · go_simp; try with_reducible rfl
           simp only [List.setIfInBounds_toArray, List.set_cons_zero, List.set_cons_succ]
           refine wpAnyH_ready (rs := [10, 13]) (by kernel_rfl) (by simp) (AllReadyH.cons rfl (fun K hK => ?_) (AllReadyH.cons rfl (fun K hK => ?_) AllReadyH.nil))
           · skip
             rw [if_pos (by rfl)]
             go_simp
             refine (hsum_live (w1.heap.size + 1) A3 _ wq3 (HTN.out.live2.below (((((Below.refl wn.heap.size wn).drew).trans (HBQ1.out.mono ((Below.refl wn.heap.size wn).drew).size)).trans (HBQ2.out.mono (((Below.refl wn.heap.size wn).drew).trans (HBQ1.out.mono ((Below.refl wn.heap.size wn).drew).size)).size)).trans (HBQ3.out.mono ((((Below.refl wn.heap.size wn).drew).trans (HBQ1.out.mono ((Below.refl wn.heap.size wn).drew).size)).trans (HBQ2.out.mono (((Below.refl wn.heap.size wn).drew).trans (HBQ1.out.mono ((Below.refl wn.heap.size wn).drew).size)).size)).size))) HLEN.out).mono ?_
             rintro e wq4 ⟨A10, c10, rfl, hs10, hb10⟩
             have HS10 := Lib.hid hs10
             have HBQ4 := Lib.hid hb10
             clear hs10 hb10
             go_wp2_with fail
             refine hK.out _ _ HBQ4.out (fun _ => ?_)
             clear hK K
             try simp only [Act.put, List.setIfInBounds_toArray, List.set_cons_zero, List.set_cons_succ]
             refine wpAnyH_mono (S' := fun w' => Below wq4.heap.size wq4 w') (fun w' h => HBQ4.out.trans (h.mono (by have := HBQ4.out.size; first | exact this | simpa using this))) ?_
             have hHeld : Below wq4.heap.size wq4 wq4 := Below.refl _ _
             refine held_yes (i := 11) (v := ?_) rfl (by kernel_rfl) (by kernel_rfl) (by kernel_rfl) (fun _ _ _ h => h) (by rfl) (fun w hSw => ?_) hHeld ?_
             rotate_left
             · have kc := str_of (HS10.out.rd.below hSw); go_simp; try with_reducible rfl
             simp only [List.setIfInBounds_toArray, List.set_cons_zero, List.set_cons_succ]
             refine held_only (i := 13) (by kernel_rfl) rfl (fun K hK => ?_)
             rw [if_pos (by rfl)]
             go_wp2_with fail
             refine world_at (F := fun wx => Below wq4.heap.size wq4 wx ∧ Rd wx 1 (some ⟨wq4.heap.size, 0, none⟩) 1 1 [.slice (some ⟨b, o, none⟩) c c]) ⟨(Below.refl _ _).alloc (Nat.le_refl _) _, rd_lit wq4 #[.slice (some ⟨b, o, none⟩) c c] _ 1 1 rfl (by simp [maxLen])⟩ (fun wq5 HF => ?_)
             have HBQ5 := Lib.hid HF.out.1
             have HR13 := Lib.hid HF.out.2
             clear HF
             refine hK.out _ _ HBQ5.out (fun _ => ?_)
             clear hK K
             try simp only [Act.put, List.setIfInBounds_toArray, List.set_cons_zero, List.set_cons_succ]
             refine wpAnyH_mono (S' := fun w' => Below wq5.heap.size wq5 w') (fun w' h => HBQ5.out.trans (h.mono (by have := HBQ5.out.size; first | exact this | simpa using this))) ?_
             have hHeld : Below wq5.heap.size wq5 wq5 := Below.refl _ _
             refine held_only (i := 14) (by kernel_rfl) rfl (fun K hK => ?_)
             rw [if_pos (by rfl)]
             go_simp
             refine (sum_one _ _ _ _ _ _ wq5 (HR13.out.below (Below.refl _ _)) (HRN.out.below (((((((Below.refl wn.heap.size wn).drew).trans (HBQ1.out.mono ((Below.refl wn.heap.size wn).drew).size)).trans (HBQ2.out.mono (((Below.refl wn.heap.size wn).drew).trans (HBQ1.out.mono ((Below.refl wn.heap.size wn).drew).size)).size)).trans (HBQ3.out.mono ((((Below.refl wn.heap.size wn).drew).trans (HBQ1.out.mono ((Below.refl wn.heap.size wn).drew).size)).trans (HBQ2.out.mono (((Below.refl wn.heap.size wn).drew).trans (HBQ1.out.mono ((Below.refl wn.heap.size wn).drew).size)).size)).size)).trans (HBQ4.out.mono (((((Below.refl wn.heap.size wn).drew).trans (HBQ1.out.mono ((Below.refl wn.heap.size wn).drew).size)).trans (HBQ2.out.mono (((Below.refl wn.heap.size wn).drew).trans (HBQ1.out.mono ((Below.refl wn.heap.size wn).drew).size)).size)).trans (HBQ3.out.mono ((((Below.refl wn.heap.size wn).drew).trans (HBQ1.out.mono ((Below.refl wn.heap.size wn).drew).size)).trans (HBQ2.out.mono (((Below.refl wn.heap.size wn).drew).trans (HBQ1.out.mono ((Below.refl wn.heap.size wn).drew).size)).size)).size)).size)).trans (HBQ5.out.mono ((((((Below.refl wn.heap.size wn).drew).trans (HBQ1.out.mono ((Below.refl wn.heap.size wn).drew).size)).trans (HBQ2.out.mono (((Below.refl wn.heap.size wn).drew).trans (HBQ1.out.mono ((Below.refl wn.heap.size wn).drew).size)).size)).trans (HBQ3.out.mono ((((Below.refl wn.heap.size wn).drew).trans (HBQ1.out.mono ((Below.refl wn.heap.size wn).drew).size)).trans (HBQ2.out.mono (((Below.refl wn.heap.size wn).drew).trans (HBQ1.out.mono ((Below.refl wn.heap.size wn).drew).size)).size)).size)).trans (HBQ4.out.mono (((((Below.refl wn.heap.size wn).drew).trans (HBQ1.out.mono ((Below.refl wn.heap.size wn).drew).size)).trans (HBQ2.out.mono (((Below.refl wn.heap.size wn).drew).trans (HBQ1.out.mono ((Below.refl wn.heap.size wn).drew).size)).size)).trans (HBQ3.out.mono ((((Below.refl wn.heap.size wn).drew).trans (HBQ1.out.mono ((Below.refl wn.heap.size wn).drew).size)).trans (HBQ2.out.mono (((Below.refl wn.heap.size wn).drew).trans (HBQ1.out.mono ((Below.refl wn.heap.size wn).drew).size)).size)).size)).size)).size))) HLEN.out).mono ?_
             rintro e wq6 ⟨A14, c14, rfl, hs14, hb14⟩
             have HS14 := Lib.hid hs14
             have HBQ6 := Lib.hid hb14
             clear hs14 hb14
             go_wp2_with fail
             refine hK.out _ _ HBQ6.out (fun _ => ?_)
             clear hK K
             try simp only [Act.put, List.setIfInBounds_toArray, List.set_cons_zero, List.set_cons_succ]
             refine wpAnyH_mono (S' := fun w' => Below wq6.heap.size wq6 w') (fun w' h => HBQ6.out.trans (h.mono (by have := HBQ6.out.size; first | exact this | simpa using this))) ?_
             have hHeld : Below wq6.heap.size wq6 wq6 := Below.refl _ _
             refine held_yes (i := 15) (v := ?_) rfl (by kernel_rfl) (by kernel_rfl) (by kernel_rfl) (fun _ _ _ h => h) (by rfl) (fun w hSw => ?_) hHeld ?_
             rotate_left
             · have kc := str_of (HS14.out.rd.below hSw); go_simp; try with_reducible rfl
             simp only [List.setIfInBounds_toArray, List.set_cons_zero, List.set_cons_succ]
             refine held_yes (i := 16) (v := ?_) rfl (by kernel_rfl) (by kernel_rfl) (by kernel_rfl) (fun _ _ _ h => h) (by rfl) (fun w hSw => ?_) hHeld ?_
             rotate_left
             · go_simp; try with_reducible rfl
             simp only [List.setIfInBounds_toArray, List.set_cons_zero, List.set_cons_succ]
             refine held_yes (i := 17) (v := ?_) rfl (by kernel_rfl) (by kernel_rfl) (by kernel_rfl) (fun _ _ _ h => h) (by rfl) (fun w hSw => ?_) hHeld ?_
             rotate_left
             · go_simp; try with_reducible rfl
             simp only [List.setIfInBounds_toArray, List.set_cons_zero, List.set_cons_succ]
             refine held_yes (i := 18) (v := ?_) rfl (by kernel_rfl) (by kernel_rfl) (by kernel_rfl) (fun _ _ _ h => h) (by rfl) (fun w hSw => ?_) hHeld ?_
             rotate_left
             · go_simp; try with_reducible rfl
             simp only [List.setIfInBounds_toArray, List.set_cons_zero, List.set_cons_succ]
             refine wpAnyH_done (by kernel_rfl) ?_ _
             go_wp2_with fail
             go_ret
             exact ⟨rfl, ((HB1.out.trans (HTN.out.below.mono HB1.out.size)).trans (((((((((Below.refl wn.heap.size wn).drew).trans (HBQ1.out.mono ((Below.refl wn.heap.size wn).drew).size)).trans (HBQ2.out.mono (((Below.refl wn.heap.size wn).drew).trans (HBQ1.out.mono ((Below.refl wn.heap.size wn).drew).size)).size)).trans (HBQ3.out.mono ((((Below.refl wn.heap.size wn).drew).trans (HBQ1.out.mono ((Below.refl wn.heap.size wn).drew).size)).trans (HBQ2.out.mono (((Below.refl wn.heap.size wn).drew).trans (HBQ1.out.mono ((Below.refl wn.heap.size wn).drew).size)).size)).size)).trans (HBQ4.out.mono (((((Below.refl wn.heap.size wn).drew).trans (HBQ1.out.mono ((Below.refl wn.heap.size wn).drew).size)).trans (HBQ2.out.mono (((Below.refl wn.heap.size wn).drew).trans (HBQ1.out.mono ((Below.refl wn.heap.size wn).drew).size)).size)).trans (HBQ3.out.mono ((((Below.refl wn.heap.size wn).drew).trans (HBQ1.out.mono ((Below.refl wn.heap.size wn).drew).size)).trans (HBQ2.out.mono (((Below.refl wn.heap.size wn).drew).trans (HBQ1.out.mono ((Below.refl wn.heap.size wn).drew).size)).size)).size)).size)).trans (HBQ5.out.mono ((((((Below.refl wn.heap.size wn).drew).trans (HBQ1.out.mono ((Below.refl wn.heap.size wn).drew).size)).trans (HBQ2.out.mono (((Below.refl wn.heap.size wn).drew).trans (HBQ1.out.mono ((Below.refl wn.heap.size wn).drew).size)).size)).trans (HBQ3.out.mono ((((Below.refl wn.heap.size wn).drew).trans (HBQ1.out.mono ((Below.refl wn.heap.size wn).drew).size)).trans (HBQ2.out.mono (((Below.refl wn.heap.size wn).drew).trans (HBQ1.out.mono ((Below.refl wn.heap.size wn).drew).size)).size)).size)).trans (HBQ4.out.mono (((((Below.refl wn.heap.size wn).drew).trans (HBQ1.out.mono ((Below.refl wn.heap.size wn).drew).size)).trans (HBQ2.out.mono (((Below.refl wn.heap.size wn).drew).trans (HBQ1.out.mono ((Below.refl wn.heap.size wn).drew).size)).size)).trans (HBQ3.out.mono ((((Below.refl wn.heap.size wn).drew).trans (HBQ1.out.mono ((Below.refl wn.heap.size wn).drew).size)).trans (HBQ2.out.mono (((Below.refl wn.heap.size wn).drew).trans (HBQ1.out.mono ((Below.refl wn.heap.size wn).drew).size)).size)).size)).size)).size)).trans (HBQ6.out.mono (((((((Below.refl wn.heap.size wn).drew).trans (HBQ1.out.mono ((Below.refl wn.heap.size wn).drew).size)).trans (HBQ2.out.mono (((Below.refl wn.heap.size wn).drew).trans (HBQ1.out.mono ((Below.refl wn.heap.size wn).drew).size)).size)).trans (HBQ3.out.mono ((((Below.refl wn.heap.size wn).drew).trans (HBQ1.out.mono ((Below.refl wn.heap.size wn).drew).size)).trans (HBQ2.out.mono (((Below.refl wn.heap.size wn).drew).trans (HBQ1.out.mono ((Below.refl wn.heap.size wn).drew).size)).size)).size)).trans (HBQ4.out.mono (((((Below.refl wn.heap.size wn).drew).trans (HBQ1.out.mono ((Below.refl wn.heap.size wn).drew).size)).trans (HBQ2.out.mono (((Below.refl wn.heap.size wn).drew).trans (HBQ1.out.mono ((Below.refl wn.heap.size wn).drew).size)).size)).trans (HBQ3.out.mono ((((Below.refl wn.heap.size wn).drew).trans (HBQ1.out.mono ((Below.refl wn.heap.size wn).drew).size)).trans (HBQ2.out.mono (((Below.refl wn.heap.size wn).drew).trans (HBQ1.out.mono ((Below.refl wn.heap.size wn).drew).size)).size)).size)).size)).trans (HBQ5.out.mono ((((((Below.refl wn.heap.size wn).drew).trans (HBQ1.out.mono ((Below.refl wn.heap.size wn).drew).size)).trans (HBQ2.out.mono (((Below.refl wn.heap.size wn).drew).trans (HBQ1.out.mono ((Below.refl wn.heap.size wn).drew).size)).size)).trans (HBQ3.out.mono ((((Below.refl wn.heap.size wn).drew).trans (HBQ1.out.mono ((Below.refl wn.heap.size wn).drew).size)).trans (HBQ2.out.mono (((Below.refl wn.heap.size wn).drew).trans (HBQ1.out.mono ((Below.refl wn.heap.size wn).drew).size)).size)).size)).trans (HBQ4.out.mono (((((Below.refl wn.heap.size wn).drew).trans (HBQ1.out.mono ((Below.refl wn.heap.size wn).drew).size)).trans (HBQ2.out.mono (((Below.refl wn.heap.size wn).drew).trans (HBQ1.out.mono ((Below.refl wn.heap.size wn).drew).size)).size)).trans (HBQ3.out.mono ((((Below.refl wn.heap.size wn).drew).trans (HBQ1.out.mono ((Below.refl wn.heap.size wn).drew).size)).trans (HBQ2.out.mono (((Below.refl wn.heap.size wn).drew).trans (HBQ1.out.mono ((Below.refl wn.heap.size wn).drew).size)).size)).size)).size)).size)).size)).mono HBS.out))⟩
           · skip
             rw [if_pos (by rfl)]
             go_wp2_with fail
             refine world_at (F := fun wx => Below wq3.heap.size wq3 wx ∧ Rd wx 1 (some ⟨wq3.heap.size, 0, none⟩) 1 1 [.slice (some ⟨b, o, none⟩) c c]) ⟨(Below.refl _ _).alloc (Nat.le_refl _) _, rd_lit wq3 #[.slice (some ⟨b, o, none⟩) c c] _ 1 1 rfl (by simp [maxLen])⟩ (fun wq7 HF => ?_)
             have HBQ7 := Lib.hid HF.out.1
             have HR13 := Lib.hid HF.out.2
             clear HF
             refine hK.out _ _ HBQ7.out (fun _ => ?_)
             clear hK K
             try simp only [Act.put, List.setIfInBounds_toArray, List.set_cons_zero, List.set_cons_succ]
             refine wpAnyH_mono (S' := fun w' => Below wq7.heap.size wq7 w') (fun w' h => HBQ7.out.trans (h.mono (by have := HBQ7.out.size; first | exact this | simpa using this))) ?_
             have hHeld : Below wq7.heap.size wq7 wq7 := Below.refl _ _
             refine held_only (i := 10) (by kernel_rfl) rfl (fun K hK => ?_)
             rw [if_pos (by rfl)]
             go_simp
             refine (hsum_live (w1.heap.size + 1) A3 _ wq7 (HTN.out.live2.below ((((((Below.refl wn.heap.size wn).drew).trans (HBQ1.out.mono ((Below.refl wn.heap.size wn).drew).size)).trans (HBQ2.out.mono (((Below.refl wn.heap.size wn).drew).trans (HBQ1.out.mono ((Below.refl wn.heap.size wn).drew).size)).size)).trans (HBQ3.out.mono ((((Below.refl wn.heap.size wn).drew).trans (HBQ1.out.mono ((Below.refl wn.heap.size wn).drew).size)).trans (HBQ2.out.mono (((Below.refl wn.heap.size wn).drew).trans (HBQ1.out.mono ((Below.refl wn.heap.size wn).drew).size)).size)).size)).trans (HBQ7.out.mono (((((Below.refl wn.heap.size wn).drew).trans (HBQ1.out.mono ((Below.refl wn.heap.size wn).drew).size)).trans (HBQ2.out.mono (((Below.refl wn.heap.size wn).drew).trans (HBQ1.out.mono ((Below.refl wn.heap.size wn).drew).size)).size)).trans (HBQ3.out.mono ((((Below.refl wn.heap.size wn).drew).trans (HBQ1.out.mono ((Below.refl wn.heap.size wn).drew).size)).trans (HBQ2.out.mono (((Below.refl wn.heap.size wn).drew).trans (HBQ1.out.mono ((Below.refl wn.heap.size wn).drew).size)).size)).size)).size))) HLEN.out).mono ?_
             rintro e wq8 ⟨A10, c10, rfl, hs10, hb10⟩
             have HS10 := Lib.hid hs10
             have HBQ8 := Lib.hid hb10
             clear hs10 hb10
             go_wp2_with fail
             refine hK.out _ _ HBQ8.out (fun _ => ?_)
             clear hK K
             try simp only [Act.put, List.setIfInBounds_toArray, List.set_cons_zero, List.set_cons_succ]
             refine wpAnyH_mono (S' := fun w' => Below wq8.heap.size wq8 w') (fun w' h => HBQ8.out.trans (h.mono (by have := HBQ8.out.size; first | exact this | simpa using this))) ?_
             have hHeld : Below wq8.heap.size wq8 wq8 := Below.refl _ _
             refine held_yes (i := 11) (v := ?_) rfl (by kernel_rfl) (by kernel_rfl) (by kernel_rfl) (fun _ _ _ h => h) (by rfl) (fun w hSw => ?_) hHeld ?_
             rotate_left
             · have kc := str_of (HS10.out.rd.below hSw); go_simp; try with_reducible rfl
             simp only [List.setIfInBounds_toArray, List.set_cons_zero, List.set_cons_succ]
             refine held_only (i := 14) (by kernel_rfl) rfl (fun K hK => ?_)
             rw [if_pos (by rfl)]
             go_simp
             refine (sum_one _ _ _ _ _ _ wq8 (HR13.out.below HBQ8.out) (HRN.out.below (((((((Below.refl wn.heap.size wn).drew).trans (HBQ1.out.mono ((Below.refl wn.heap.size wn).drew).size)).trans (HBQ2.out.mono (((Below.refl wn.heap.size wn).drew).trans (HBQ1.out.mono ((Below.refl wn.heap.size wn).drew).size)).size)).trans (HBQ3.out.mono ((((Below.refl wn.heap.size wn).drew).trans (HBQ1.out.mono ((Below.refl wn.heap.size wn).drew).size)).trans (HBQ2.out.mono (((Below.refl wn.heap.size wn).drew).trans (HBQ1.out.mono ((Below.refl wn.heap.size wn).drew).size)).size)).size)).trans (HBQ7.out.mono (((((Below.refl wn.heap.size wn).drew).trans (HBQ1.out.mono ((Below.refl wn.heap.size wn).drew).size)).trans (HBQ2.out.mono (((Below.refl wn.heap.size wn).drew).trans (HBQ1.out.mono ((Below.refl wn.heap.size wn).drew).size)).size)).trans (HBQ3.out.mono ((((Below.refl wn.heap.size wn).drew).trans (HBQ1.out.mono ((Below.refl wn.heap.size wn).drew).size)).trans (HBQ2.out.mono (((Below.refl wn.heap.size wn).drew).trans (HBQ1.out.mono ((Below.refl wn.heap.size wn).drew).size)).size)).size)).size)).trans (HBQ8.out.mono ((((((Below.refl wn.heap.size wn).drew).trans (HBQ1.out.mono ((Below.refl wn.heap.size wn).drew).size)).trans (HBQ2.out.mono (((Below.refl wn.heap.size wn).drew).trans (HBQ1.out.mono ((Below.refl wn.heap.size wn).drew).size)).size)).trans (HBQ3.out.mono ((((Below.refl wn.heap.size wn).drew).trans (HBQ1.out.mono ((Below.refl wn.heap.size wn).drew).size)).trans (HBQ2.out.mono (((Below.refl wn.heap.size wn).drew).trans (HBQ1.out.mono ((Below.refl wn.heap.size wn).drew).size)).size)).size)).trans (HBQ7.out.mono (((((Below.refl wn.heap.size wn).drew).trans (HBQ1.out.mono ((Below.refl wn.heap.size wn).drew).size)).trans (HBQ2.out.mono (((Below.refl wn.heap.size wn).drew).trans (HBQ1.out.mono ((Below.refl wn.heap.size wn).drew).size)).size)).trans (HBQ3.out.mono ((((Below.refl wn.heap.size wn).drew).trans (HBQ1.out.mono ((Below.refl wn.heap.size wn).drew).size)).trans (HBQ2.out.mono (((Below.refl wn.heap.size wn).drew).trans (HBQ1.out.mono ((Below.refl wn.heap.size wn).drew).size)).size)).size)).size)).size))) HLEN.out).mono ?_
             rintro e wq9 ⟨A14, c14, rfl, hs14, hb14⟩
             have HS14 := Lib.hid hs14
             have HBQ9 := Lib.hid hb14
             clear hs14 hb14
             go_wp2_with fail
             refine hK.out _ _ HBQ9.out (fun _ => ?_)
             clear hK K
             try simp only [Act.put, List.setIfInBounds_toArray, List.set_cons_zero, List.set_cons_succ]
             refine wpAnyH_mono (S' := fun w' => Below wq9.heap.size wq9 w') (fun w' h => HBQ9.out.trans (h.mono (by have := HBQ9.out.size; first | exact this | simpa using this))) ?_
             have hHeld : Below wq9.heap.size wq9 wq9 := Below.refl _ _
             refine held_yes (i := 15) (v := ?_) rfl (by kernel_rfl) (by kernel_rfl) (by kernel_rfl) (fun _ _ _ h => h) (by rfl) (fun w hSw => ?_) hHeld ?_
             rotate_left
             · have kc := str_of (HS14.out.rd.below hSw); go_simp; try with_reducible rfl
             simp only [List.setIfInBounds_toArray, List.set_cons_zero, List.set_cons_succ]
             refine held_yes (i := 16) (v := ?_) rfl (by kernel_rfl) (by kernel_rfl) (by kernel_rfl) (fun _ _ _ h => h) (by rfl) (fun w hSw => ?_) hHeld ?_
             rotate_left
             · go_simp; try with_reducible rfl
             simp only [List.setIfInBounds_toArray, List.set_cons_zero, List.set_cons_succ]
             refine held_yes (i := 17) (v := ?_) rfl (by kernel_rfl) (by kernel_rfl) (by kernel_rfl) (fun _ _ _ h => h) (by rfl) (fun w hSw => ?_) hHeld ?_
             rotate_left
             · go_simp; try with_reducible rfl
             simp only [List.setIfInBounds_toArray, List.set_cons_zero, List.set_cons_succ]
             refine held_yes (i := 18) (v := ?_) rfl (by kernel_rfl) (by kernel_rfl) (by kernel_rfl) (fun _ _ _ h => h) (by rfl) (fun w hSw => ?_) hHeld ?_
             rotate_left
             · go_simp; try with_reducible rfl
             simp only [List.setIfInBounds_toArray, List.set_cons_zero, List.set_cons_succ]
             refine wpAnyH_done (by kernel_rfl) ?_ _
             go_wp2_with fail
             go_ret
             exact ⟨rfl, ((HB1.out.trans (HTN.out.below.mono HB1.out.size)).trans (((((((((Below.refl wn.heap.size wn).drew).trans (HBQ1.out.mono ((Below.refl wn.heap.size wn).drew).size)).trans (HBQ2.out.mono (((Below.refl wn.heap.size wn).drew).trans (HBQ1.out.mono ((Below.refl wn.heap.size wn).drew).size)).size)).trans (HBQ3.out.mono ((((Below.refl wn.heap.size wn).drew).trans (HBQ1.out.mono ((Below.refl wn.heap.size wn).drew).size)).trans (HBQ2.out.mono (((Below.refl wn.heap.size wn).drew).trans (HBQ1.out.mono ((Below.refl wn.heap.size wn).drew).size)).size)).size)).trans (HBQ7.out.mono (((((Below.refl wn.heap.size wn).drew).trans (HBQ1.out.mono ((Below.refl wn.heap.size wn).drew).size)).trans (HBQ2.out.mono (((Below.refl wn.heap.size wn).drew).trans (HBQ1.out.mono ((Below.refl wn.heap.size wn).drew).size)).size)).trans (HBQ3.out.mono ((((Below.refl wn.heap.size wn).drew).trans (HBQ1.out.mono ((Below.refl wn.heap.size wn).drew).size)).trans (HBQ2.out.mono (((Below.refl wn.heap.size wn).drew).trans (HBQ1.out.mono ((Below.refl wn.heap.size wn).drew).size)).size)).size)).size)).trans (HBQ8.out.mono ((((((Below.refl wn.heap.size wn).drew).trans (HBQ1.out.mono ((Below.refl wn.heap.size wn).drew).size)).trans (HBQ2.out.mono (((Below.refl wn.heap.size wn).drew).trans (HBQ1.out.mono ((Below.refl wn.heap.size wn).drew).size)).size)).trans (HBQ3.out.mono ((((Below.refl wn.heap.size wn).drew).trans (HBQ1.out.mono ((Below.refl wn.heap.size wn).drew).size)).trans (HBQ2.out.mono (((Below.refl wn.heap.size wn).drew).trans (HBQ1.out.mono ((Below.refl wn.heap.size wn).drew).size)).size)).size)).trans (HBQ7.out.mono (((((Below.refl wn.heap.size wn).drew).trans (HBQ1.out.mono ((Below.refl wn.heap.size wn).drew).size)).trans (HBQ2.out.mono (((Below.refl wn.heap.size wn).drew).trans (HBQ1.out.mono ((Below.refl wn.heap.size wn).drew).size)).size)).trans (HBQ3.out.mono ((((Below.refl wn.heap.size wn).drew).trans (HBQ1.out.mono ((Below.refl wn.heap.size wn).drew).size)).trans (HBQ2.out.mono (((Below.refl wn.heap.size wn).drew).trans (HBQ1.out.mono ((Below.refl wn.heap.size wn).drew).size)).size)).size)).size)).size)).trans (HBQ9.out.mono (((((((Below.refl wn.heap.size wn).drew).trans (HBQ1.out.mono ((Below.refl wn.heap.size wn).drew).size)).trans (HBQ2.out.mono (((Below.refl wn.heap.size wn).drew).trans (HBQ1.out.mono ((Below.refl wn.heap.size wn).drew).size)).size)).trans (HBQ3.out.mono ((((Below.refl wn.heap.size wn).drew).trans (HBQ1.out.mono ((Below.refl wn.heap.size wn).drew).size)).trans (HBQ2.out.mono (((Below.refl wn.heap.size wn).drew).trans (HBQ1.out.mono ((Below.refl wn.heap.size wn).drew).size)).size)).size)).trans (HBQ7.out.mono (((((Below.refl wn.heap.size wn).drew).trans (HBQ1.out.mono ((Below.refl wn.heap.size wn).drew).size)).trans (HBQ2.out.mono (((Below.refl wn.heap.size wn).drew).trans (HBQ1.out.mono ((Below.refl wn.heap.size wn).drew).size)).size)).trans (HBQ3.out.mono ((((Below.refl wn.heap.size wn).drew).trans (HBQ1.out.mono ((Below.refl wn.heap.size wn).drew).size)).trans (HBQ2.out.mono (((Below.refl wn.heap.size wn).drew).trans (HBQ1.out.mono ((Below.refl wn.heap.size wn).drew).size)).size)).size)).size)).trans (HBQ8.out.mono ((((((Below.refl wn.heap.size wn).drew).trans (HBQ1.out.mono ((Below.refl wn.heap.size wn).drew).size)).trans (HBQ2.out.mono (((Below.refl wn.heap.size wn).drew).trans (HBQ1.out.mono ((Below.refl wn.heap.size wn).drew).size)).size)).trans (HBQ3.out.mono ((((Below.refl wn.heap.size wn).drew).trans (HBQ1.out.mono ((Below.refl wn.heap.size wn).drew).size)).trans (HBQ2.out.mono (((Below.refl wn.heap.size wn).drew).trans (HBQ1.out.mono ((Below.refl wn.heap.size wn).drew).size)).size)).size)).trans (HBQ7.out.mono (((((Below.refl wn.heap.size wn).drew).trans (HBQ1.out.mono ((Below.refl wn.heap.size wn).drew).size)).trans (HBQ2.out.mono (((Below.refl wn.heap.size wn).drew).trans (HBQ1.out.mono ((Below.refl wn.heap.size wn).drew).size)).size)).trans (HBQ3.out.mono ((((Below.refl wn.heap.size wn).drew).trans (HBQ1.out.mono ((Below.refl wn.heap.size wn).drew).size)).trans (HBQ2.out.mono (((Below.refl wn.heap.size wn).drew).trans (HBQ1.out.mono ((Below.refl wn.heap.size wn).drew).size)).size)).size)).size)).size)).size)).mono HBS.out))⟩
         · skip
           rw [if_pos (by rfl)]
           go_wp2_with fail
           refine world_at (F := fun wx => Below wn.drew.heap.size wn.drew wx ∧ Rd wx 1 (some ⟨wn.drew.heap.size, 0, none⟩) 1 1 [.slice (some ⟨b, o, none⟩) c c]) ⟨(Below.refl _ _).alloc (Nat.le_refl _) _, rd_lit wn.drew #[.slice (some ⟨b, o, none⟩) c c] _ 1 1 rfl (by simp [maxLen])⟩ (fun wq10 HF => ?_)
           have HBQ10 := Lib.hid HF.out.1
           have HR4 := Lib.hid HF.out.2
           clear HF
           refine hK.out _ _ ((Below.refl wn.heap.size wn).drew.trans HBQ10.out) (fun _ => ?_)
           clear hK K
           try simp only [Act.put, List.setIfInBounds_toArray, List.set_cons_zero, List.set_cons_succ]
           refine wpAnyH_mono (S' := fun w' => Below wq10.heap.size wq10 w') (fun w' h => ((Below.refl wn.heap.size wn).drew.trans HBQ10.out).trans (h.mono (by have := HBQ10.out.size; first | exact this | simpa using this))) ?_
           have hHeld : Below wq10.heap.size wq10 wq10 := Below.refl _ _
           refine held_only (i := 1) (by kernel_rfl) rfl (fun K hK => ?_)
           rw [if_pos (by rfl)]
           go_simp
           refine (hsum_live w1.heap.size Ag _ wq10 (HTN.out.live1.below (((Below.refl wn.heap.size wn).drew).trans (HBQ10.out.mono ((Below.refl wn.heap.size wn).drew).size))) HLEN.out).mono ?_
           rintro e wq11 ⟨A1, c1, rfl, hs1, hb1⟩
           have HS1 := Lib.hid hs1
           have HBQ11 := Lib.hid hb1
           clear hs1 hb1
           go_wp2_with fail
           refine hK.out _ _ HBQ11.out (fun _ => ?_)
           clear hK K
           try simp only [Act.put, List.setIfInBounds_toArray, List.set_cons_zero, List.set_cons_succ]
           refine wpAnyH_mono (S' := fun w' => Below wq11.heap.size wq11 w') (fun w' h => HBQ11.out.trans (h.mono (by have := HBQ11.out.size; first | exact this | simpa using this))) ?_
           have hHeld : Below wq11.heap.size wq11 wq11 := Below.refl _ _
           refine held_yes (i := 2) (v := ?_) rfl (by kernel_rfl) (by kernel_rfl) (by kernel_rfl) (fun _ _ _ h => h) (by rfl) (fun w hSw => ?_) hHeld ?_
           rotate_left
           · have kc := str_of (HS1.out.rd.below hSw); go_simp; try with_reducible rfl
           simp only [List.setIfInBounds_toArray, List.set_cons_zero, List.set_cons_succ]
           refine held_only (i := 5) (by kernel_rfl) rfl (fun K hK => ?_)
           rw [if_pos (by rfl)]
           go_simp
           refine (sum_one _ _ _ _ _ _ wq11 (HR4.out.below HBQ11.out) (HRN.out.below ((((Below.refl wn.heap.size wn).drew).trans (HBQ10.out.mono ((Below.refl wn.heap.size wn).drew).size)).trans (HBQ11.out.mono (((Below.refl wn.heap.size wn).drew).trans (HBQ10.out.mono ((Below.refl wn.heap.size wn).drew).size)).size))) HLEN.out).mono ?_
           rintro e wq12 ⟨A5, c5, rfl, hs5, hb5⟩
           have HS5 := Lib.hid hs5
           have HBQ12 := Lib.hid hb5
           clear hs5 hb5
           go_wp2_with fail
           refine hK.out _ _ HBQ12.out (fun _ => ?_)
           clear hK K
           try simp only [Act.put, List.setIfInBounds_toArray, List.set_cons_zero, List.set_cons_succ]
           refine wpAnyH_mono (S' := fun w' => Below wq12.heap.size wq12 w') (fun w' h => HBQ12.out.trans (h.mono (by have := HBQ12.out.size; first | exact this | simpa using this))) ?_
           have hHeld : Below wq12.heap.size wq12 wq12 := Below.refl _ _
           refine held_yes (i := 6) (v := ?_) rfl (by kernel_rfl) (by kernel_rfl) (by kernel_rfl) (fun _ _ _ h => h) (by rfl) (fun w hSw => ?_) hHeld ?_
           rotate_left
           · have kc := str_of (HS5.out.rd.below hSw); go_simp; try with_reducible rfl
           simp only [List.setIfInBounds_toArray, List.set_cons_zero, List.set_cons_succ]
           refine held_yes (i := 7) (v := ?_) rfl (by kernel_rfl) (by kernel_rfl) (by kernel_rfl) (fun _ _ _ h => h) (by rfl) (fun w hSw => ?_) hHeld ?_
           rotate_left
           · go_simp; try with_reducible rfl
           simp only [List.setIfInBounds_toArray, List.set_cons_zero, List.set_cons_succ]
           refine held_yes (i := 8) (v := ?_) rfl (by kernel_rfl) (by kernel_rfl) (by kernel_rfl) (fun _ _ _ h => h) (by rfl) (fun w hSw => ?_) hHeld ?_
           rotate_left
           · go_simp; try with_reducible rfl
           simp only [List.setIfInBounds_toArray, List.set_cons_zero, List.set_cons_succ]
           refine held_yes (i := 9) (v := ?_) rfl (by kernel_rfl) (by kernel_rfl) (by kernel_rfl) (fun _ _ _ h => h) (by rfl) (fun w hSw => ?_) hHeld ?_
           rotate_left
           · go_simp; try with_reducible rfl
           simp only [List.setIfInBounds_toArray, List.set_cons_zero, List.set_cons_succ]
           refine held_yes (i := 12) (v := ?_) rfl (by kernel_rfl) (by kernel_rfl) (by kernel_rfl) (fun _ _ _ h => h) (by rfl) (fun w hSw => ?_) hHeld ?_
           rotate_left
           · go_simp; try with_reducible rfl
           simp only [List.setIfInBounds_toArray, List.set_cons_zero, List.set_cons_succ]
           refine wpAnyH_ready (rs := [10, 13]) (by kernel_rfl) (by simp) (AllReadyH.cons rfl (fun K hK => ?_) (AllReadyH.cons rfl (fun K hK => ?_) AllReadyH.nil))
           · skip
             rw [if_pos (by rfl)]
             go_simp
             refine (hsum_live (w1.heap.size + 1) A3 _ wq12 (HTN.out.live2.below (((((Below.refl wn.heap.size wn).drew).trans (HBQ10.out.mono ((Below.refl wn.heap.size wn).drew).size)).trans (HBQ11.out.mono (((Below.refl wn.heap.size wn).drew).trans (HBQ10.out.mono ((Below.refl wn.heap.size wn).drew).size)).size)).trans (HBQ12.out.mono ((((Below.refl wn.heap.size wn).drew).trans (HBQ10.out.mono ((Below.refl wn.heap.size wn).drew).size)).trans (HBQ11.out.mono (((Below.refl wn.heap.size wn).drew).trans (HBQ10.out.mono ((Below.refl wn.heap.size wn).drew).size)).size)).size))) HLEN.out).mono ?_
             rintro e wq13 ⟨A10, c10, rfl, hs10, hb10⟩
             have HS10 := Lib.hid hs10
             have HBQ13 := Lib.hid hb10
             clear hs10 hb10
             go_wp2_with fail
             refine hK.out _ _ HBQ13.out (fun _ => ?_)
             clear hK K
             try simp only [Act.put, List.setIfInBounds_toArray, List.set_cons_zero, List.set_cons_succ]
             refine wpAnyH_mono (S' := fun w' => Below wq13.heap.size wq13 w') (fun w' h => HBQ13.out.trans (h.mono (by have := HBQ13.out.size; first | exact this | simpa using this))) ?_
             have hHeld : Below wq13.heap.size wq13 wq13 := Below.refl _ _
             refine held_yes (i := 11) (v := ?_) rfl (by kernel_rfl) (by kernel_rfl) (by kernel_rfl) (fun _ _ _ h => h) (by rfl) (fun w hSw => ?_) hHeld ?_
             rotate_left
             · have kc := str_of (HS10.out.rd.below hSw); go_simp; try with_reducible rfl
             simp only [List.setIfInBounds_toArray, List.set_cons_zero, List.set_cons_succ]
             refine held_only (i := 13) (by kernel_rfl) rfl (fun K hK => ?_)
             rw [if_pos (by rfl)]
             go_wp2_with fail
             refine world_at (F := fun wx => Below wq13.heap.size wq13 wx ∧ Rd wx 1 (some ⟨wq13.heap.size, 0, none⟩) 1 1 [.slice (some ⟨b, o, none⟩) c c]) ⟨(Below.refl _ _).alloc (Nat.le_refl _) _, rd_lit wq13 #[.slice (some ⟨b, o, none⟩) c c] _ 1 1 rfl (by simp [maxLen])⟩ (fun wq14 HF => ?_)
             have HBQ14 := Lib.hid HF.out.1
             have HR13 := Lib.hid HF.out.2
             clear HF
             refine hK.out _ _ HBQ14.out (fun _ => ?_)
             clear hK K
             try simp only [Act.put, List.setIfInBounds_toArray, List.set_cons_zero, List.set_cons_succ]
             refine wpAnyH_mono (S' := fun w' => Below wq14.heap.size wq14 w') (fun w' h => HBQ14.out.trans (h.mono (by have := HBQ14.out.size; first | exact this | simpa using this))) ?_
             have hHeld : Below wq14.heap.size wq14 wq14 := Below.refl _ _
             refine held_only (i := 14) (by kernel_rfl) rfl (fun K hK => ?_)
             rw [if_pos (by rfl)]
             go_simp
             refine (sum_one _ _ _ _ _ _ wq14 (HR13.out.below (Below.refl _ _)) (HRN.out.below (((((((Below.refl wn.heap.size wn).drew).trans (HBQ10.out.mono ((Below.refl wn.heap.size wn).drew).size)).trans (HBQ11.out.mono (((Below.refl wn.heap.size wn).drew).trans (HBQ10.out.mono ((Below.refl wn.heap.size wn).drew).size)).size)).trans (HBQ12.out.mono ((((Below.refl wn.heap.size wn).drew).trans (HBQ10.out.mono ((Below.refl wn.heap.size wn).drew).size)).trans (HBQ11.out.mono (((Below.refl wn.heap.size wn).drew).trans (HBQ10.out.mono ((Below.refl wn.heap.size wn).drew).size)).size)).size)).trans (HBQ13.out.mono (((((Below.refl wn.heap.size wn).drew).trans (HBQ10.out.mono ((Below.refl wn.heap.size wn).drew).size)).trans (HBQ11.out.mono (((Below.refl wn.heap.size wn).drew).trans (HBQ10.out.mono ((Below.refl wn.heap.size wn).drew).size)).size)).trans (HBQ12.out.mono ((((Below.refl wn.heap.size wn).drew).trans (HBQ10.out.mono ((Below.refl wn.heap.size wn).drew).size)).trans (HBQ11.out.mono (((Below.refl wn.heap.size wn).drew).trans (HBQ10.out.mono ((Below.refl wn.heap.size wn).drew).size)).size)).size)).size)).trans (HBQ14.out.mono ((((((Below.refl wn.heap.size wn).drew).trans (HBQ10.out.mono ((Below.refl wn.heap.size wn).drew).size)).trans (HBQ11.out.mono (((Below.refl wn.heap.size wn).drew).trans (HBQ10.out.mono ((Below.refl wn.heap.size wn).drew).size)).size)).trans (HBQ12.out.mono ((((Below.refl wn.heap.size wn).drew).trans (HBQ10.out.mono ((Below.refl wn.heap.size wn).drew).size)).trans (HBQ11.out.mono (((Below.refl wn.heap.size wn).drew).trans (HBQ10.out.mono ((Below.refl wn.heap.size wn).drew).size)).size)).size)).trans (HBQ13.out.mono (((((Below.refl wn.heap.size wn).drew).trans (HBQ10.out.mono ((Below.refl wn.heap.size wn).drew).size)).trans (HBQ11.out.mono (((Below.refl wn.heap.size wn).drew).trans (HBQ10.out.mono ((Below.refl wn.heap.size wn).drew).size)).size)).trans (HBQ12.out.mono ((((Below.refl wn.heap.size wn).drew).trans (HBQ10.out.mono ((Below.refl wn.heap.size wn).drew).size)).trans (HBQ11.out.mono (((Below.refl wn.heap.size wn).drew).trans (HBQ10.out.mono ((Below.refl wn.heap.size wn).drew).size)).size)).size)).size)).size))) HLEN.out).mono ?_
             rintro e wq15 ⟨A14, c14, rfl, hs14, hb14⟩
             have HS14 := Lib.hid hs14
             have HBQ15 := Lib.hid hb14
             clear hs14 hb14
             go_wp2_with fail
             refine hK.out _ _ HBQ15.out (fun _ => ?_)
             clear hK K
             try simp only [Act.put, List.setIfInBounds_toArray, List.set_cons_zero, List.set_cons_succ]
             refine wpAnyH_mono (S' := fun w' => Below wq15.heap.size wq15 w') (fun w' h => HBQ15.out.trans (h.mono (by have := HBQ15.out.size; first | exact this | simpa using this))) ?_
             have hHeld : Below wq15.heap.size wq15 wq15 := Below.refl _ _
             refine held_yes (i := 15) (v := ?_) rfl (by kernel_rfl) (by kernel_rfl) (by kernel_rfl) (fun _ _ _ h => h) (by rfl) (fun w hSw => ?_) hHeld ?_
             rotate_left
             · have kc := str_of (HS14.out.rd.below hSw); go_simp; try with_reducible rfl
             simp only [List.setIfInBounds_toArray, List.set_cons_zero, List.set_cons_succ]
             refine held_yes (i := 16) (v := ?_) rfl (by kernel_rfl) (by kernel_rfl) (by kernel_rfl) (fun _ _ _ h => h) (by rfl) (fun w hSw => ?_) hHeld ?_
             rotate_left
             · go_simp; try with_reducible rfl
             simp only [List.setIfInBounds_toArray, List.set_cons_zero, List.set_cons_succ]
             refine held_yes (i := 17) (v := ?_) rfl (by kernel_rfl) (by kernel_rfl) (by kernel_rfl) (fun _ _ _ h => h) (by rfl) (fun w hSw => ?_) hHeld ?_
             rotate_left
             · go_simp; try with_reducible rfl
             simp only [List.setIfInBounds_toArray, List.set_cons_zero, List.set_cons_succ]
             refine held_yes (i := 18) (v := ?_) rfl (by kernel_rfl) (by kernel_rfl) (by kernel_rfl) (fun _ _ _ h => h) (by rfl) (fun w hSw => ?_) hHeld ?_
             rotate_left
             · go_simp; try with_reducible rfl
             simp only [List.setIfInBounds_toArray, List.set_cons_zero, List.set_cons_succ]
             refine wpAnyH_done (by kernel_rfl) ?_ _
             go_wp2_with fail
             go_ret
             exact ⟨rfl, ((HB1.out.trans (HTN.out.below.mono HB1.out.size)).trans (((((((((Below.refl wn.heap.size wn).drew).trans (HBQ10.out.mono ((Below.refl wn.heap.size wn).drew).size)).trans (HBQ11.out.mono (((Below.refl wn.heap.size wn).drew).trans (HBQ10.out.mono ((Below.refl wn.heap.size wn).drew).size)).size)).trans (HBQ12.out.mono ((((Below.refl wn.heap.size wn).drew).trans (HBQ10.out.mono ((Below.refl wn.heap.size wn).drew).size)).trans (HBQ11.out.mono (((Below.refl wn.heap.size wn).drew).trans (HBQ10.out.mono ((Below.refl wn.heap.size wn).drew).size)).size)).size)).trans (HBQ13.out.mono (((((Below.refl wn.heap.size wn).drew).trans (HBQ10.out.mono ((Below.refl wn.heap.size wn).drew).size)).trans (HBQ11.out.mono (((Below.refl wn.heap.size wn).drew).trans (HBQ10.out.mono ((Below.refl wn.heap.size wn).drew).size)).size)).trans (HBQ12.out.mono ((((Below.refl wn.heap.size wn).drew).trans (HBQ10.out.mono ((Below.refl wn.heap.size wn).drew).size)).trans (HBQ11.out.mono (((Below.refl wn.heap.size wn).drew).trans (HBQ10.out.mono ((Below.refl wn.heap.size wn).drew).size)).size)).size)).size)).trans (HBQ14.out.mono ((((((Below.refl wn.heap.size wn).drew).trans (HBQ10.out.mono ((Below.refl wn.heap.size wn).drew).size)).trans (HBQ11.out.mono (((Below.refl wn.heap.size wn).drew).trans (HBQ10.out.mono ((Below.refl wn.heap.size wn).drew).size)).size)).trans (HBQ12.out.mono ((((Below.refl wn.heap.size wn).drew).trans (HBQ10.out.mono ((Below.refl wn.heap.size wn).drew).size)).trans (HBQ11.out.mono (((Below.refl wn.heap.size wn).drew).trans (HBQ10.out.mono ((Below.refl wn.heap.size wn).drew).size)).size)).size)).trans (HBQ13.out.mono (((((Below.refl wn.heap.size wn).drew).trans (HBQ10.out.mono ((Below.refl wn.heap.size wn).drew).size)).trans (HBQ11.out.mono (((Below.refl wn.heap.size wn).drew).trans (HBQ10.out.mono ((Below.refl wn.heap.size wn).drew).size)).size)).trans (HBQ12.out.mono ((((Below.refl wn.heap.size wn).drew).trans (HBQ10.out.mono ((Below.refl wn.heap.size wn).drew).size)).trans (HBQ11.out.mono (((Below.refl wn.heap.size wn).drew).trans (HBQ10.out.mono ((Below.refl wn.heap.size wn).drew).size)).size)).size)).size)).size)).trans (HBQ15.out.mono (((((((Below.refl wn.heap.size wn).drew).trans (HBQ10.out.mono ((Below.refl wn.heap.size wn).drew).size)).trans (HBQ11.out.mono (((Below.refl wn.heap.size wn).drew).trans (HBQ10.out.mono ((Below.refl wn.heap.size wn).drew).size)).size)).trans (HBQ12.out.mono ((((Below.refl wn.heap.size wn).drew).trans (HBQ10.out.mono ((Below.refl wn.heap.size wn).drew).size)).trans (HBQ11.out.mono (((Below.refl wn.heap.size wn).drew).trans (HBQ10.out.mono ((Below.refl wn.heap.size wn).drew).size)).size)).size)).trans (HBQ13.out.mono (((((Below.refl wn.heap.size wn).drew).trans (HBQ10.out.mono ((Below.refl wn.heap.size wn).drew).size)).trans (HBQ11.out.mono (((Below.refl wn.heap.size wn).drew).trans (HBQ10.out.mono ((Below.refl wn.heap.size wn).drew).size)).size)).trans (HBQ12.out.mono ((((Below.refl wn.heap.size wn).drew).trans (HBQ10.out.mono ((Below.refl wn.heap.size wn).drew).size)).trans (HBQ11.out.mono (((Below.refl wn.heap.size wn).drew).trans (HBQ10.out.mono ((Below.refl wn.heap.size wn).drew).size)).size)).size)).size)).trans (HBQ14.out.mono ((((((Below.refl wn.heap.size wn).drew).trans (HBQ10.out.mono ((Below.refl wn.heap.size wn).drew).size)).trans (HBQ11.out.mono (((Below.refl wn.heap.size wn).drew).trans (HBQ10.out.mono ((Below.refl wn.heap.size wn).drew).size)).size)).trans (HBQ12.out.mono ((((Below.refl wn.heap.size wn).drew).trans (HBQ10.out.mono ((Below.refl wn.heap.size wn).drew).size)).trans (HBQ11.out.mono (((Below.refl wn.heap.size wn).drew).trans (HBQ10.out.mono ((Below.refl wn.heap.size wn).drew).size)).size)).size)).trans (HBQ13.out.mono (((((Below.refl wn.heap.size wn).drew).trans (HBQ10.out.mono ((Below.refl wn.heap.size wn).drew).size)).trans (HBQ11.out.mono (((Below.refl wn.heap.size wn).drew).trans (HBQ10.out.mono ((Below.refl wn.heap.size wn).drew).size)).size)).trans (HBQ12.out.mono ((((Below.refl wn.heap.size wn).drew).trans (HBQ10.out.mono ((Below.refl wn.heap.size wn).drew).size)).trans (HBQ11.out.mono (((Below.refl wn.heap.size wn).drew).trans (HBQ10.out.mono ((Below.refl wn.heap.size wn).drew).size)).size)).size)).size)).size)).size)).mono HBS.out))⟩
           · skip
             rw [if_pos (by rfl)]
             go_wp2_with fail
             refine world_at (F := fun wx => Below wq12.heap.size wq12 wx ∧ Rd wx 1 (some ⟨wq12.heap.size, 0, none⟩) 1 1 [.slice (some ⟨b, o, none⟩) c c]) ⟨(Below.refl _ _).alloc (Nat.le_refl _) _, rd_lit wq12 #[.slice (some ⟨b, o, none⟩) c c] _ 1 1 rfl (by simp [maxLen])⟩ (fun wq16 HF => ?_)
             have HBQ16 := Lib.hid HF.out.1
             have HR13 := Lib.hid HF.out.2
             clear HF
             refine hK.out _ _ HBQ16.out (fun _ => ?_)
             clear hK K
             try simp only [Act.put, List.setIfInBounds_toArray, List.set_cons_zero, List.set_cons_succ]
             refine wpAnyH_mono (S' := fun w' => Below wq16.heap.size wq16 w') (fun w' h => HBQ16.out.trans (h.mono (by have := HBQ16.out.size; first | exact this | simpa using this))) ?_
             have hHeld : Below wq16.heap.size wq16 wq16 := Below.refl _ _
             refine held_only (i := 10) (by kernel_rfl) rfl (fun K hK => ?_)
             rw [if_pos (by rfl)]
             go_simp
             refine (hsum_live (w1.heap.size + 1) A3 _ wq16 (HTN.out.live2.below ((((((Below.refl wn.heap.size wn).drew).trans (HBQ10.out.mono ((Below.refl wn.heap.size wn).drew).size)).trans (HBQ11.out.mono (((Below.refl wn.heap.size wn).drew).trans (HBQ10.out.mono ((Below.refl wn.heap.size wn).drew).size)).size)).trans (HBQ12.out.mono ((((Below.refl wn.heap.size wn).drew).trans (HBQ10.out.mono ((Below.refl wn.heap.size wn).drew).size)).trans (HBQ11.out.mono (((Below.refl wn.heap.size wn).drew).trans (HBQ10.out.mono ((Below.refl wn.heap.size wn).drew).size)).size)).size)).trans (HBQ16.out.mono (((((Below.refl wn.heap.size wn).drew).trans (HBQ10.out.mono ((Below.refl wn.heap.size wn).drew).size)).trans (HBQ11.out.mono (((Below.refl wn.heap.size wn).drew).trans (HBQ10.out.mono ((Below.refl wn.heap.size wn).drew).size)).size)).trans (HBQ12.out.mono ((((Below.refl wn.heap.size wn).drew).trans (HBQ10.out.mono ((Below.refl wn.heap.size wn).drew).size)).trans (HBQ11.out.mono (((Below.refl wn.heap.size wn).drew).trans (HBQ10.out.mono ((Below.refl wn.heap.size wn).drew).size)).size)).size)).size))) HLEN.out).mono ?_
             rintro e wq17 ⟨A10, c10, rfl, hs10, hb10⟩
             have HS10 := Lib.hid hs10
             have HBQ17 := Lib.hid hb10
             clear hs10 hb10
             go_wp2_with fail
             refine hK.out _ _ HBQ17.out (fun _ => ?_)
             clear hK K
             try simp only [Act.put, List.setIfInBounds_toArray, List.set_cons_zero, List.set_cons_succ]
             refine wpAnyH_mono (S' := fun w' => Below wq17.heap.size wq17 w') (fun w' h => HBQ17.out.trans (h.mono (by have := HBQ17.out.size; first | exact this | simpa using this))) ?_
             have hHeld : Below wq17.heap.size wq17 wq17 := Below.refl _ _
             refine held_yes (i := 11) (v := ?_) rfl (by kernel_rfl) (by kernel_rfl) (by kernel_rfl) (fun _ _ _ h => h) (by rfl) (fun w hSw => ?_) hHeld ?_
             rotate_left
             · have kc := str_of (HS10.out.rd.below hSw); go_simp; try with_reducible rfl
             simp only [List.setIfInBounds_toArray, List.set_cons_zero, List.set_cons_succ]
             refine held_only (i := 14) (by kernel_rfl) rfl (fun K hK => ?_)
             rw [if_pos (by rfl)]
             go_simp
             refine (sum_one _ _ _ _ _ _ wq17 (HR13.out.below HBQ17.out) (HRN.out.below (((((((Below.refl wn.heap.size wn).drew).trans (HBQ10.out.mono ((Below.refl wn.heap.size wn).drew).size)).trans (HBQ11.out.mono (((Below.refl wn.heap.size wn).drew).trans (HBQ10.out.mono ((Below.refl wn.heap.size wn).drew).size)).size)).trans (HBQ12.out.mono ((((Below.refl wn.heap.size wn).drew).trans (HBQ10.out.mono ((Below.refl wn.heap.size wn).drew).size)).trans (HBQ11.out.mono (((Below.refl wn.heap.size wn).drew).trans (HBQ10.out.mono ((Below.refl wn.heap.size wn).drew).size)).size)).size)).trans (HBQ16.out.mono (((((Below.refl wn.heap.size wn).drew).trans (HBQ10.out.mono ((Below.refl wn.heap.size wn).drew).size)).trans (HBQ11.out.mono (((Below.refl wn.heap.size wn).drew).trans (HBQ10.out.mono ((Below.refl wn.heap.size wn).drew).size)).size)).trans (HBQ12.out.mono ((((Below.refl wn.heap.size wn).drew).trans (HBQ10.out.mono ((Below.refl wn.heap.size wn).drew).size)).trans (HBQ11.out.mono (((Below.refl wn.heap.size wn).drew).trans (HBQ10.out.mono ((Below.refl wn.heap.size wn).drew).size)).size)).size)).size)).trans (HBQ17.out.mono ((((((Below.refl wn.heap.size wn).drew).trans (HBQ10.out.mono ((Below.refl wn.heap.size wn).drew).size)).trans (HBQ11.out.mono (((Below.refl wn.heap.size wn).drew).trans (HBQ10.out.mono ((Below.refl wn.heap.size wn).drew).size)).size)).trans (HBQ12.out.mono ((((Below.refl wn.heap.size wn).drew).trans (HBQ10.out.mono ((Below.refl wn.heap.size wn).drew).size)).trans (HBQ11.out.mono (((Below.refl wn.heap.size wn).drew).trans (HBQ10.out.mono ((Below.refl wn.heap.size wn).drew).size)).size)).size)).trans (HBQ16.out.mono (((((Below.refl wn.heap.size wn).drew).trans (HBQ10.out.mono ((Below.refl wn.heap.size wn).drew).size)).trans (HBQ11.out.mono (((Below.refl wn.heap.size wn).drew).trans (HBQ10.out.mono ((Below.refl wn.heap.size wn).drew).size)).size)).trans (HBQ12.out.mono ((((Below.refl wn.heap.size wn).drew).trans (HBQ10.out.mono ((Below.refl wn.heap.size wn).drew).size)).trans (HBQ11.out.mono (((Below.refl wn.heap.size wn).drew).trans (HBQ10.out.mono ((Below.refl wn.heap.size wn).drew).size)).size)).size)).size)).size))) HLEN.out).mono ?_
             rintro e wq18 ⟨A14, c14, rfl, hs14, hb14⟩
             have HS14 := Lib.hid hs14
             have HBQ18 := Lib.hid hb14
             clear hs14 hb14
             go_wp2_with fail
             refine hK.out _ _ HBQ18.out (fun _ => ?_)
             clear hK K
             try simp only [Act.put, List.setIfInBounds_toArray, List.set_cons_zero, List.set_cons_succ]
             refine wpAnyH_mono (S' := fun w' => Below wq18.heap.size wq18 w') (fun w' h => HBQ18.out.trans (h.mono (by have := HBQ18.out.size; first | exact this | simpa using this))) ?_
             have hHeld : Below wq18.heap.size wq18 wq18 := Below.refl _ _
             refine held_yes (i := 15) (v := ?_) rfl (by kernel_rfl) (by kernel_rfl) (by kernel_rfl) (fun _ _ _ h => h) (by rfl) (fun w hSw => ?_) hHeld ?_
             rotate_left
             · have kc := str_of (HS14.out.rd.below hSw); go_simp; try with_reducible rfl
             simp only [List.setIfInBounds_toArray, List.set_cons_zero, List.set_cons_succ]
             refine held_yes (i := 16) (v := ?_) rfl (by kernel_rfl) (by kernel_rfl) (by kernel_rfl) (fun _ _ _ h => h) (by rfl) (fun w hSw => ?_) hHeld ?_
             rotate_left
             · go_simp; try with_reducible rfl
             simp only [List.setIfInBounds_toArray, List.set_cons_zero, List.set_cons_succ]
             refine held_yes (i := 17) (v := ?_) rfl (by kernel_rfl) (by kernel_rfl) (by kernel_rfl) (fun _ _ _ h => h) (by rfl) (fun w hSw => ?_) hHeld ?_
             rotate_left
             · go_simp; try with_reducible rfl
             simp only [List.setIfInBounds_toArray, List.set_cons_zero, List.set_cons_succ]
             refine held_yes (i := 18) (v := ?_) rfl (by kernel_rfl) (by kernel_rfl) (by kernel_rfl) (fun _ _ _ h => h) (by rfl) (fun w hSw => ?_) hHeld ?_
             rotate_left
             · go_simp; try with_reducible rfl
             simp only [List.setIfInBounds_toArray, List.set_cons_zero, List.set_cons_succ]
             refine wpAnyH_done (by kernel_rfl) ?_ _
             go_wp2_with fail
             go_ret
             exact ⟨rfl, ((HB1.out.trans (HTN.out.below.mono HB1.out.size)).trans (((((((((Below.refl wn.heap.size wn).drew).trans (HBQ10.out.mono ((Below.refl wn.heap.size wn).drew).size)).trans (HBQ11.out.mono (((Below.refl wn.heap.size wn).drew).trans (HBQ10.out.mono ((Below.refl wn.heap.size wn).drew).size)).size)).trans (HBQ12.out.mono ((((Below.refl wn.heap.size wn).drew).trans (HBQ10.out.mono ((Below.refl wn.heap.size wn).drew).size)).trans (HBQ11.out.mono (((Below.refl wn.heap.size wn).drew).trans (HBQ10.out.mono ((Below.refl wn.heap.size wn).drew).size)).size)).size)).trans (HBQ16.out.mono (((((Below.refl wn.heap.size wn).drew).trans (HBQ10.out.mono ((Below.refl wn.heap.size wn).drew).size)).trans (HBQ11.out.mono (((Below.refl wn.heap.size wn).drew).trans (HBQ10.out.mono ((Below.refl wn.heap.size wn).drew).size)).size)).trans (HBQ12.out.mono ((((Below.refl wn.heap.size wn).drew).trans (HBQ10.out.mono ((Below.refl wn.heap.size wn).drew).size)).trans (HBQ11.out.mono (((Below.refl wn.heap.size wn).drew).trans (HBQ10.out.mono ((Below.refl wn.heap.size wn).drew).size)).size)).size)).size)).trans (HBQ17.out.mono ((((((Below.refl wn.heap.size wn).drew).trans (HBQ10.out.mono ((Below.refl wn.heap.size wn).drew).size)).trans (HBQ11.out.mono (((Below.refl wn.heap.size wn).drew).trans (HBQ10.out.mono ((Below.refl wn.heap.size wn).drew).size)).size)).trans (HBQ12.out.mono ((((Below.refl wn.heap.size wn).drew).trans (HBQ10.out.mono ((Below.refl wn.heap.size wn).drew).size)).trans (HBQ11.out.mono (((Below.refl wn.heap.size wn).drew).trans (HBQ10.out.mono ((Below.refl wn.heap.size wn).drew).size)).size)).size)).trans (HBQ16.out.mono (((((Below.refl wn.heap.size wn).drew).trans (HBQ10.out.mono ((Below.refl wn.heap.size wn).drew).size)).trans (HBQ11.out.mono (((Below.refl wn.heap.size wn).drew).trans (HBQ10.out.mono ((Below.refl wn.heap.size wn).drew).size)).size)).trans (HBQ12.out.mono ((((Below.refl wn.heap.size wn).drew).trans (HBQ10.out.mono ((Below.refl wn.heap.size wn).drew).size)).trans (HBQ11.out.mono (((Below.refl wn.heap.size wn).drew).trans (HBQ10.out.mono ((Below.refl wn.heap.size wn).drew).size)).size)).size)).size)).size)).trans (HBQ18.out.mono (((((((Below.refl wn.heap.size wn).drew).trans (HBQ10.out.mono ((Below.refl wn.heap.size wn).drew).size)).trans (HBQ11.out.mono (((Below.refl wn.heap.size wn).drew).trans (HBQ10.out.mono ((Below.refl wn.heap.size wn).drew).size)).size)).trans (HBQ12.out.mono ((((Below.refl wn.heap.size wn).drew).trans (HBQ10.out.mono ((Below.refl wn.heap.size wn).drew).size)).trans (HBQ11.out.mono (((Below.refl wn.heap.size wn).drew).trans (HBQ10.out.mono ((Below.refl wn.heap.size wn).drew).size)).size)).size)).trans (HBQ16.out.mono (((((Below.refl wn.heap.size wn).drew).trans (HBQ10.out.mono ((Below.refl wn.heap.size wn).drew).size)).trans (HBQ11.out.mono (((Below.refl wn.heap.size wn).drew).trans (HBQ10.out.mono ((Below.refl wn.heap.size wn).drew).size)).size)).trans (HBQ12.out.mono ((((Below.refl wn.heap.size wn).drew).trans (HBQ10.out.mono ((Below.refl wn.heap.size wn).drew).size)).trans (HBQ11.out.mono (((Below.refl wn.heap.size wn).drew).trans (HBQ10.out.mono ((Below.refl wn.heap.size wn).drew).size)).size)).size)).size)).trans (HBQ17.out.mono ((((((Below.refl wn.heap.size wn).drew).trans (HBQ10.out.mono ((Below.refl wn.heap.size wn).drew).size)).trans (HBQ11.out.mono (((Below.refl wn.heap.size wn).drew).trans (HBQ10.out.mono ((Below.refl wn.heap.size wn).drew).size)).size)).trans (HBQ12.out.mono ((((Below.refl wn.heap.size wn).drew).trans (HBQ10.out.mono ((Below.refl wn.heap.size wn).drew).size)).trans (HBQ11.out.mono (((Below.refl wn.heap.size wn).drew).trans (HBQ10.out.mono ((Below.refl wn.heap.size wn).drew).size)).size)).size)).trans (HBQ16.out.mono (((((Below.refl wn.heap.size wn).drew).trans (HBQ10.out.mono ((Below.refl wn.heap.size wn).drew).size)).trans (HBQ11.out.mono (((Below.refl wn.heap.size wn).drew).trans (HBQ10.out.mono ((Below.refl wn.heap.size wn).drew).size)).size)).trans (HBQ12.out.mono ((((Below.refl wn.heap.size wn).drew).trans (HBQ10.out.mono ((Below.refl wn.heap.size wn).drew).size)).trans (HBQ11.out.mono (((Below.refl wn.heap.size wn).drew).trans (HBQ10.out.mono ((Below.refl wn.heap.size wn).drew).size)).size)).size)).size)).size)).size)).mono HBS.out))⟩
        case neg =>
         have HRF0 := HR.out.from (i := K) hKn
         rw [if_neg hcK] at HRF0
         have HRF := Lib.hid HRF0
         clear HRF0
         have HWA := Lib.hid (write_live (w1.heap.size + 1) none [] (bs.take K) (some ⟨b, o, none⟩) K c wr HTC.out.live2 (HRT.out.below HBW.out) (fun _ => HNE.out o w1 HB1.out.size) (by have := HL1.out; simp only [List.length_nil]; omega))
         go_wp2_with (first | (refine HWA.out.mono ?_; rintro e wm ⟨rfl, A2, hl2, ht2, ha2⟩; have HTM := Lib.hid (HTC.out.swap.wrote hl2 ht2 ha2); clear hl2 ht2 ha2 HWA; have HWB := Lib.hid (write_live (w1.heap.size + 1) A2 ([] ++ bs.take K) (bs.drop K) (some ⟨b, o + K, none⟩) (k - K) (c - K) wm HTM.out.live1 (HRF.out.below (HB1.out.trans (HTM.out.below.mono HB1.out.size))) (fun _ => HNE.out (o + K) w1 HB1.out.size) (by have := HL1.out; simp only [List.nil_append]; omega))) | (refine HWB.out.mono ?_; rintro e wn ⟨rfl, A3, hl2, ht2, ha2⟩; have HTN := Lib.hid (HTM.out.wrote hl2 ht2 ha2).swap; clear hl2 ht2 ha2 HWB))
         rw [show ([] : List UInt8) ++ bs.take K ++ bs.drop K = bs by simp] at HTN
         have HRN := Lib.hid (HR.out.below (HB1.out.trans (HTN.out.below.mono HB1.out.size)))
         have HBS : Hid (w.heap.size ≤ wn.heap.size) := Lib.hid (HB1.out.trans (HTN.out.below.mono HB1.out.size)).size
         refine wp_region_held_drew (S := fun w' => Below wn.heap.size wn w') (by kernel_rfl) ((Below.refl _ _).drew) (fun hHeld => ?_)
         refine held_yes (i := 0) (v := ?_) rfl (by kernel_rfl) (by kernel_rfl) (by kernel_rfl) (fun _ _ _ h => h) (by rfl) (fun w hSw => ?_) hHeld ?_
         rotate_left
         · go_simp; try with_reducible rfl
         simp only [List.setIfInBounds_toArray, List.set_cons_zero, List.set_cons_succ]
         refine held_yes (i := 3) (v := ?_) rfl (by kernel_rfl) (by kernel_rfl) (by kernel_rfl) (fun _ _ _ h => h) (by rfl) (fun w hSw => ?_) hHeld ?_
         rotate_left
         · go_simp; try with_reducible rfl
         simp only [List.setIfInBounds_toArray, List.set_cons_zero, List.set_cons_succ]
         refine wpAnyH_ready (rs := [1, 4]) (by kernel_rfl) (by simp) (AllReadyH.cons rfl (fun K hK => ?_) (AllReadyH.cons rfl (fun K hK => ?_) AllReadyH.nil))
         · skip
           rw [if_pos (by rfl)]
           go_simp
           refine (hsum_live w1.heap.size Ag _ wn.drew (HTN.out.live1.below ((Below.refl wn.heap.size wn).drew)) HLEN.out).mono ?_
           rintro e wq1 ⟨A1, c1, rfl, hs1, hb1⟩
           have HS1 := Lib.hid hs1
           have HBQ1 := Lib.hid hb1
           clear hs1 hb1
           go_wp2_with fail
           refine hK.out _ _ ((Below.refl wn.heap.size wn).drew.trans HBQ1.out) (fun _ => ?_)
           clear hK K
           try simp only [Act.put, List.setIfInBounds_toArray, List.set_cons_zero, List.set_cons_succ]
           refine wpAnyH_mono (S' := fun w' => Below wq1.heap.size wq1 w') (fun w' h => ((Below.refl wn.heap.size wn).drew.trans HBQ1.out).trans (h.mono (by have := HBQ1.out.size; first | exact this | simpa using this))) ?_
           have hHeld : Below wq1.heap.size wq1 wq1 := Below.refl _ _
           refine held_yes (i := 2) (v := ?_) rfl (by kernel_rfl) (by kernel_rfl) (by kernel_rfl) (fun _ _ _ h => h) (by rfl) (fun w hSw => ?_) hHeld ?_
           rotate_left
           · have kc := str_of (HS1.out.rd.below hSw); go_simp; try with_reducible rfl
           simp only [List.setIfInBounds_toArray, List.set_cons_zero, List.set_cons_succ]
           refine held_only (i := 4) (by kernel_rfl) rfl (fun K hK => ?_)
           rw [if_pos (by rfl)]
           go_wp2_with fail
           refine world_at (F := fun wx => Below wq1.heap.size wq1 wx ∧ Rd wx 1 (some ⟨wq1.heap.size, 0, none⟩) 1 1 [.slice (some ⟨b, o, none⟩) k c]) ⟨(Below.refl _ _).alloc (Nat.le_refl _) _, rd_lit wq1 #[.slice (some ⟨b, o, none⟩) k c] _ 1 1 rfl (by simp [maxLen])⟩ (fun wq2 HF => ?_)
           have HBQ2 := Lib.hid HF.out.1
           have HR4 := Lib.hid HF.out.2
           clear HF
           refine hK.out _ _ HBQ2.out (fun _ => ?_)
           clear hK K
           try simp only [Act.put, List.setIfInBounds_toArray, List.set_cons_zero, List.set_cons_succ]
           refine wpAnyH_mono (S' := fun w' => Below wq2.heap.size wq2 w') (fun w' h => HBQ2.out.trans (h.mono (by have := HBQ2.out.size; first | exact this | simpa using this))) ?_
           have hHeld : Below wq2.heap.size wq2 wq2 := Below.refl _ _
           refine held_only (i := 5) (by kernel_rfl) rfl (fun K hK => ?_)
           rw [if_pos (by rfl)]
           go_simp
           refine (sum_one _ _ _ _ _ _ wq2 (HR4.out.below (Below.refl _ _)) (HRN.out.below ((((Below.refl wn.heap.size wn).drew).trans (HBQ1.out.mono ((Below.refl wn.heap.size wn).drew).size)).trans (HBQ2.out.mono (((Below.refl wn.heap.size wn).drew).trans (HBQ1.out.mono ((Below.refl wn.heap.size wn).drew).size)).size))) HLEN.out).mono ?_
           rintro e wq3 ⟨A5, c5, rfl, hs5, hb5⟩
           have HS5 := Lib.hid hs5
           have HBQ3 := Lib.hid hb5
           clear hs5 hb5
           go_wp2_with fail
           refine hK.out _ _ HBQ3.out (fun _ => ?_)
           clear hK K
           try simp only [Act.put, List.setIfInBounds_toArray, List.set_cons_zero, List.set_cons_succ]
           refine wpAnyH_mono (S' := fun w' => Below wq3.heap.size wq3 w') (fun w' h => HBQ3.out.trans (h.mono (by have := HBQ3.out.size; first | exact this | simpa using this))) ?_
           have hHeld : Below wq3.heap.size wq3 wq3 := Below.refl _ _
           refine held_yes (i := 6) (v := ?_) rfl (by kernel_rfl) (by kernel_rfl) (by kernel_rfl) (fun _ _ _ h => h) (by rfl) (fun w hSw => ?_) hHeld ?_
           rotate_left
           · have kc := str_of (HS5.out.rd.below hSw); go_simp; try with_reducible rfl
           simp only [List.setIfInBounds_toArray, List.set_cons_zero, List.set_cons_succ]
           refine held_yes (i := 7) (v := ?_) rfl (by kernel_rfl) (by kernel_rfl) (by kernel_rfl) (fun _ _ _ h => h) (by rfl) (fun w hSw => ?_) hHeld ?_
           rotate_left
           · go_simp; try with_reducible rfl
           simp only [List.setIfInBounds_toArray, List.set_cons_zero, List.set_cons_succ]
           refine held_yes (i := 8) (v := ?_) rfl (by kernel_rfl) (by kernel_rfl) (by kernel_rfl) (fun _ _ _ h => h) (by rfl) (fun w hSw => ?_) hHeld ?_
           rotate_left
           · go_simp; try with_reducible rfl
           simp only [List.setIfInBounds_toArray, List.set_cons_zero, List.set_cons_succ]
           refine held_yes (i := 9) (v := ?_) rfl (by kernel_rfl) (by kernel_rfl) (by kernel_rfl) (fun _ _ _ h => h) (by rfl) (fun w hSw => ?_) hHeld ?_
           rotate_left
           · go_simp; try with_reducible rfl
           simp only [List.setIfInBounds_toArray, List.set_cons_zero, List.set_cons_succ]
           refine held_yes (i := 12) (v := ?_) rfl (by kernel_rfl) (by kernel_rfl) (by kernel_rfl) (fun _ _ _ h => h) (by rfl) (fun w hSw => ?_) hHeld ?_
           rotate_left
           · go_simp; try with_reducible rfl
           simp only [List.setIfInBounds_toArray, List.set_cons_zero, List.set_cons_succ]
           refine wpAnyH_ready (rs := [10, 13]) (by kernel_rfl) (by simp) (AllReadyH.cons rfl (fun K hK => ?_) (AllReadyH.cons rfl (fun K hK => ?_) AllReadyH.nil))
           · skip
             rw [if_pos (by rfl)]
             go_simp
             refine (hsum_live (w1.heap.size + 1) A3 _ wq3 (HTN.out.live2.below (((((Below.refl wn.heap.size wn).drew).trans (HBQ1.out.mono ((Below.refl wn.heap.size wn).drew).size)).trans (HBQ2.out.mono (((Below.refl wn.heap.size wn).drew).trans (HBQ1.out.mono ((Below.refl wn.heap.size wn).drew).size)).size)).trans (HBQ3.out.mono ((((Below.refl wn.heap.size wn).drew).trans (HBQ1.out.mono ((Below.refl wn.heap.size wn).drew).size)).trans (HBQ2.out.mono (((Below.refl wn.heap.size wn).drew).trans (HBQ1.out.mono ((Below.refl wn.heap.size wn).drew).size)).size)).size))) HLEN.out).mono ?_
             rintro e wq4 ⟨A10, c10, rfl, hs10, hb10⟩
             have HS10 := Lib.hid hs10
             have HBQ4 := Lib.hid hb10
             clear hs10 hb10
             go_wp2_with fail
             refine hK.out _ _ HBQ4.out (fun _ => ?_)
             clear hK K
             try simp only [Act.put, List.setIfInBounds_toArray, List.set_cons_zero, List.set_cons_succ]
             refine wpAnyH_mono (S' := fun w' => Below wq4.heap.size wq4 w') (fun w' h => HBQ4.out.trans (h.mono (by have := HBQ4.out.size; first | exact this | simpa using this))) ?_
             have hHeld : Below wq4.heap.size wq4 wq4 := Below.refl _ _
             refine held_yes (i := 11) (v := ?_) rfl (by kernel_rfl) (by kernel_rfl) (by kernel_rfl) (fun _ _ _ h => h) (by rfl) (fun w hSw => ?_) hHeld ?_
             rotate_left
             · have kc := str_of (HS10.out.rd.below hSw); go_simp; try with_reducible rfl
             simp only [List.setIfInBounds_toArray, List.set_cons_zero, List.set_cons_succ]
             refine held_only (i := 13) (by kernel_rfl) rfl (fun K hK => ?_)
             rw [if_pos (by rfl)]
             go_wp2_with fail
             refine world_at (F := fun wx => Below wq4.heap.size wq4 wx ∧ Rd wx 1 (some ⟨wq4.heap.size, 0, none⟩) 1 1 [.slice (some ⟨b, o, none⟩) k c]) ⟨(Below.refl _ _).alloc (Nat.le_refl _) _, rd_lit wq4 #[.slice (some ⟨b, o, none⟩) k c] _ 1 1 rfl (by simp [maxLen])⟩ (fun wq5 HF => ?_)
             have HBQ5 := Lib.hid HF.out.1
             have HR13 := Lib.hid HF.out.2
             clear HF
             refine hK.out _ _ HBQ5.out (fun _ => ?_)
             clear hK K
             try simp only [Act.put, List.setIfInBounds_toArray, List.set_cons_zero, List.set_cons_succ]
             refine wpAnyH_mono (S' := fun w' => Below wq5.heap.size wq5 w') (fun w' h => HBQ5.out.trans (h.mono (by have := HBQ5.out.size; first | exact this | simpa using this))) ?_
             have hHeld : Below wq5.heap.size wq5 wq5 := Below.refl _ _
             refine held_only (i := 14) (by kernel_rfl) rfl (fun K hK => ?_)
             rw [if_pos (by rfl)]
             go_simp
             refine (sum_one _ _ _ _ _ _ wq5 (HR13.out.below (Below.refl _ _)) (HRN.out.below (((((((Below.refl wn.heap.size wn).drew).trans (HBQ1.out.mono ((Below.refl wn.heap.size wn).drew).size)).trans (HBQ2.out.mono (((Below.refl wn.heap.size wn).drew).trans (HBQ1.out.mono ((Below.refl wn.heap.size wn).drew).size)).size)).trans (HBQ3.out.mono ((((Below.refl wn.heap.size wn).drew).trans (HBQ1.out.mono ((Below.refl wn.heap.size wn).drew).size)).trans (HBQ2.out.mono (((Below.refl wn.heap.size wn).drew).trans (HBQ1.out.mono ((Below.refl wn.heap.size wn).drew).size)).size)).size)).trans (HBQ4.out.mono (((((Below.refl wn.heap.size wn).drew).trans (HBQ1.out.mono ((Below.refl wn.heap.size wn).drew).size)).trans (HBQ2.out.mono (((Below.refl wn.heap.size wn).drew).trans (HBQ1.out.mono ((Below.refl wn.heap.size wn).drew).size)).size)).trans (HBQ3.out.mono ((((Below.refl wn.heap.size wn).drew).trans (HBQ1.out.mono ((Below.refl wn.heap.size wn).drew).size)).trans (HBQ2.out.mono (((Below.refl wn.heap.size wn).drew).trans (HBQ1.out.mono ((Below.refl wn.heap.size wn).drew).size)).size)).size)).size)).trans (HBQ5.out.mono ((((((Below.refl wn.heap.size wn).drew).trans (HBQ1.out.mono ((Below.refl wn.heap.size wn).drew).size)).trans (HBQ2.out.mono (((Below.refl wn.heap.size wn).drew).trans (HBQ1.out.mono ((Below.refl wn.heap.size wn).drew).size)).size)).trans (HBQ3.out.mono ((((Below.refl wn.heap.size wn).drew).trans (HBQ1.out.mono ((Below.refl wn.heap.size wn).drew).size)).trans (HBQ2.out.mono (((Below.refl wn.heap.size wn).drew).trans (HBQ1.out.mono ((Below.refl wn.heap.size wn).drew).size)).size)).size)).trans (HBQ4.out.mono (((((Below.refl wn.heap.size wn).drew).trans (HBQ1.out.mono ((Below.refl wn.heap.size wn).drew).size)).trans (HBQ2.out.mono (((Below.refl wn.heap.size wn).drew).trans (HBQ1.out.mono ((Below.refl wn.heap.size wn).drew).size)).size)).trans (HBQ3.out.mono ((((Below.refl wn.heap.size wn).drew).trans (HBQ1.out.mono ((Below.refl wn.heap.size wn).drew).size)).trans (HBQ2.out.mono (((Below.refl wn.heap.size wn).drew).trans (HBQ1.out.mono ((Below.refl wn.heap.size wn).drew).size)).size)).size)).size)).size))) HLEN.out).mono ?_
             rintro e wq6 ⟨A14, c14, rfl, hs14, hb14⟩
             have HS14 := Lib.hid hs14
             have HBQ6 := Lib.hid hb14
             clear hs14 hb14
             go_wp2_with fail
             refine hK.out _ _ HBQ6.out (fun _ => ?_)
             clear hK K
             try simp only [Act.put, List.setIfInBounds_toArray, List.set_cons_zero, List.set_cons_succ]
             refine wpAnyH_mono (S' := fun w' => Below wq6.heap.size wq6 w') (fun w' h => HBQ6.out.trans (h.mono (by have := HBQ6.out.size; first | exact this | simpa using this))) ?_
             have hHeld : Below wq6.heap.size wq6 wq6 := Below.refl _ _
             refine held_yes (i := 15) (v := ?_) rfl (by kernel_rfl) (by kernel_rfl) (by kernel_rfl) (fun _ _ _ h => h) (by rfl) (fun w hSw => ?_) hHeld ?_
             rotate_left
             · have kc := str_of (HS14.out.rd.below hSw); go_simp; try with_reducible rfl
             simp only [List.setIfInBounds_toArray, List.set_cons_zero, List.set_cons_succ]
             refine held_yes (i := 16) (v := ?_) rfl (by kernel_rfl) (by kernel_rfl) (by kernel_rfl) (fun _ _ _ h => h) (by rfl) (fun w hSw => ?_) hHeld ?_
             rotate_left
             · go_simp; try with_reducible rfl
             simp only [List.setIfInBounds_toArray, List.set_cons_zero, List.set_cons_succ]
             refine held_yes (i := 17) (v := ?_) rfl (by kernel_rfl) (by kernel_rfl) (by kernel_rfl) (fun _ _ _ h => h) (by rfl) (fun w hSw => ?_) hHeld ?_
             rotate_left
             · go_simp; try with_reducible rfl
             simp only [List.setIfInBounds_toArray, List.set_cons_zero, List.set_cons_succ]
             refine held_yes (i := 18) (v := ?_) rfl (by kernel_rfl) (by kernel_rfl) (by kernel_rfl) (fun _ _ _ h => h) (by rfl) (fun w hSw => ?_) hHeld ?_
             rotate_left
             · go_simp; try with_reducible rfl
             simp only [List.setIfInBounds_toArray, List.set_cons_zero, List.set_cons_succ]
             refine wpAnyH_done (by kernel_rfl) ?_ _
             go_wp2_with fail
             go_ret
             exact ⟨rfl, ((HB1.out.trans (HTN.out.below.mono HB1.out.size)).trans (((((((((Below.refl wn.heap.size wn).drew).trans (HBQ1.out.mono ((Below.refl wn.heap.size wn).drew).size)).trans (HBQ2.out.mono (((Below.refl wn.heap.size wn).drew).trans (HBQ1.out.mono ((Below.refl wn.heap.size wn).drew).size)).size)).trans (HBQ3.out.mono ((((Below.refl wn.heap.size wn).drew).trans (HBQ1.out.mono ((Below.refl wn.heap.size wn).drew).size)).trans (HBQ2.out.mono (((Below.refl wn.heap.size wn).drew).trans (HBQ1.out.mono ((Below.refl wn.heap.size wn).drew).size)).size)).size)).trans (HBQ4.out.mono (((((Below.refl wn.heap.size wn).drew).trans (HBQ1.out.mono ((Below.refl wn.heap.size wn).drew).size)).trans (HBQ2.out.mono (((Below.refl wn.heap.size wn).drew).trans (HBQ1.out.mono ((Below.refl wn.heap.size wn).drew).size)).size)).trans (HBQ3.out.mono ((((Below.refl wn.heap.size wn).drew).trans (HBQ1.out.mono ((Below.refl wn.heap.size wn).drew).size)).trans (HBQ2.out.mono (((Below.refl wn.heap.size wn).drew).trans (HBQ1.out.mono ((Below.refl wn.heap.size wn).drew).size)).size)).size)).size)).trans (HBQ5.out.mono ((((((Below.refl wn.heap.size wn).drew).trans (HBQ1.out.mono ((Below.refl wn.heap.size wn).drew).size)).trans (HBQ2.out.mono (((Below.refl wn.heap.size wn).drew).trans (HBQ1.out.mono ((Below.refl wn.heap.size wn).drew).size)).size)).trans (HBQ3.out.mono ((((Below.refl wn.heap.size wn).drew).trans (HBQ1.out.mono ((Below.refl wn.heap.size wn).drew).size)).trans (HBQ2.out.mono (((Below.refl wn.heap.size wn).drew).trans (HBQ1.out.mono ((Below.refl wn.heap.size wn).drew).size)).size)).size)).trans (HBQ4.out.mono (((((Below.refl wn.heap.size wn).drew).trans (HBQ1.out.mono ((Below.refl wn.heap.size wn).drew).size)).trans (HBQ2.out.mono (((Below.refl wn.heap.size wn).drew).trans (HBQ1.out.mono ((Below.refl wn.heap.size wn).drew).size)).size)).trans (HBQ3.out.mono ((((Below.refl wn.heap.size wn).drew).trans (HBQ1.out.mono ((Below.refl wn.heap.size wn).drew).size)).trans (HBQ2.out.mono (((Below.refl wn.heap.size wn).drew).trans (HBQ1.out.mono ((Below.refl wn.heap.size wn).drew).size)).size)).size)).size)).size)).trans (HBQ6.out.mono (((((((Below.refl wn.heap.size wn).drew).trans (HBQ1.out.mono ((Below.refl wn.heap.size wn).drew).size)).trans (HBQ2.out.mono (((Below.refl wn.heap.size wn).drew).trans (HBQ1.out.mono ((Below.refl wn.heap.size wn).drew).size)).size)).trans (HBQ3.out.mono ((((Below.refl wn.heap.size wn).drew).trans (HBQ1.out.mono ((Below.refl wn.heap.size wn).drew).size)).trans (HBQ2.out.mono (((Below.refl wn.heap.size wn).drew).trans (HBQ1.out.mono ((Below.refl wn.heap.size wn).drew).size)).size)).size)).trans (HBQ4.out.mono (((((Below.refl wn.heap.size wn).drew).trans (HBQ1.out.mono ((Below.refl wn.heap.size wn).drew).size)).trans (HBQ2.out.mono (((Below.refl wn.heap.size wn).drew).trans (HBQ1.out.mono ((Below.refl wn.heap.size wn).drew).size)).size)).trans (HBQ3.out.mono ((((Below.refl wn.heap.size wn).drew).trans (HBQ1.out.mono ((Below.refl wn.heap.size wn).drew).size)).trans (HBQ2.out.mono (((Below.refl wn.heap.size wn).drew).trans (HBQ1.out.mono ((Below.refl wn.heap.size wn).drew).size)).size)).size)).size)).trans (HBQ5.out.mono ((((((Below.refl wn.heap.size wn).drew).trans (HBQ1.out.mono ((Below.refl wn.heap.size wn).drew).size)).trans (HBQ2.out.mono (((Below.refl wn.heap.size wn).drew).trans (HBQ1.out.mono ((Below.refl wn.heap.size wn).drew).size)).size)).trans (HBQ3.out.mono ((((Below.refl wn.heap.size wn).drew).trans (HBQ1.out.mono ((Below.refl wn.heap.size wn).drew).size)).trans (HBQ2.out.mono (((Below.refl wn.heap.size wn).drew).trans (HBQ1.out.mono ((Below.refl wn.heap.size wn).drew).size)).size)).size)).trans (HBQ4.out.mono (((((Below.refl wn.heap.size wn).drew).trans (HBQ1.out.mono ((Below.refl wn.heap.size wn).drew).size)).trans (HBQ2.out.mono (((Below.refl wn.heap.size wn).drew).trans (HBQ1.out.mono ((Below.refl wn.heap.size wn).drew).size)).size)).trans (HBQ3.out.mono ((((Below.refl wn.heap.size wn).drew).trans (HBQ1.out.mono ((Below.refl wn.heap.size wn).drew).size)).trans (HBQ2.out.mono (((Below.refl wn.heap.size wn).drew).trans (HBQ1.out.mono ((Below.refl wn.heap.size wn).drew).size)).size)).size)).size)).size)).size)).mono HBS.out))⟩
           · skip
             rw [if_pos (by rfl)]
             go_wp2_with fail
             refine world_at (F := fun wx => Below wq3.heap.size wq3 wx ∧ Rd wx 1 (some ⟨wq3.heap.size, 0, none⟩) 1 1 [.slice (some ⟨b, o, none⟩) k c]) ⟨(Below.refl _ _).alloc (Nat.le_refl _) _, rd_lit wq3 #[.slice (some ⟨b, o, none⟩) k c] _ 1 1 rfl (by simp [maxLen])⟩ (fun wq7 HF => ?_)
             have HBQ7 := Lib.hid HF.out.1
             have HR13 := Lib.hid HF.out.2
             clear HF
             refine hK.out _ _ HBQ7.out (fun _ => ?_)
             clear hK K
             try simp only [Act.put, List.setIfInBounds_toArray, List.set_cons_zero, List.set_cons_succ]
             refine wpAnyH_mono (S' := fun w' => Below wq7.heap.size wq7 w') (fun w' h => HBQ7.out.trans (h.mono (by have := HBQ7.out.size; first | exact this | simpa using this))) ?_
             have hHeld : Below wq7.heap.size wq7 wq7 := Below.refl _ _
             refine held_only (i := 10) (by kernel_rfl) rfl (fun K hK => ?_)
             rw [if_pos (by rfl)]
             go_simp
             refine (hsum_live (w1.heap.size + 1) A3 _ wq7 (HTN.out.live2.below ((((((Below.refl wn.heap.size wn).drew).trans (HBQ1.out.mono ((Below.refl wn.heap.size wn).drew).size)).trans (HBQ2.out.mono (((Below.refl wn.heap.size wn).drew).trans (HBQ1.out.mono ((Below.refl wn.heap.size wn).drew).size)).size)).trans (HBQ3.out.mono ((((Below.refl wn.heap.size wn).drew).trans (HBQ1.out.mono ((Below.refl wn.heap.size wn).drew).size)).trans (HBQ2.out.mono (((Below.refl wn.heap.size wn).drew).trans (HBQ1.out.mono ((Below.refl wn.heap.size wn).drew).size)).size)).size)).trans (HBQ7.out.mono (((((Below.refl wn.heap.size wn).drew).trans (HBQ1.out.mono ((Below.refl wn.heap.size wn).drew).size)).trans (HBQ2.out.mono (((Below.refl wn.heap.size wn).drew).trans (HBQ1.out.mono ((Below.refl wn.heap.size wn).drew).size)).size)).trans (HBQ3.out.mono ((((Below.refl wn.heap.size wn).drew).trans (HBQ1.out.mono ((Below.refl wn.heap.size wn).drew).size)).trans (HBQ2.out.mono (((Below.refl wn.heap.size wn).drew).trans (HBQ1.out.mono ((Below.refl wn.heap.size wn).drew).size)).size)).size)).size))) HLEN.out).mono ?_
             rintro e wq8 ⟨A10, c10, rfl, hs10, hb10⟩
             have HS10 := Lib.hid hs10
             have HBQ8 := Lib.hid hb10
             clear hs10 hb10
             go_wp2_with fail
             refine hK.out _ _ HBQ8.out (fun _ => ?_)
             clear hK K
             try simp only [Act.put, List.setIfInBounds_toArray, List.set_cons_zero, List.set_cons_succ]
             refine wpAnyH_mono (S' := fun w' => Below wq8.heap.size wq8 w') (fun w' h => HBQ8.out.trans (h.mono (by have := HBQ8.out.size; first | exact this | simpa using this))) ?_
             have hHeld : Below wq8.heap.size wq8 wq8 := Below.refl _ _
             refine held_yes (i := 11) (v := ?_) rfl (by kernel_rfl) (by kernel_rfl) (by kernel_rfl) (fun _ _ _ h => h) (by rfl) (fun w hSw => ?_) hHeld ?_
             rotate_left
             · have kc := str_of (HS10.out.rd.below hSw); go_simp; try with_reducible rfl
             simp only [List.setIfInBounds_toArray, List.set_cons_zero, List.set_cons_succ]
             refine held_only (i := 14) (by kernel_rfl) rfl (fun K hK => ?_)
             rw [if_pos (by rfl)]
             go_simp
             refine (sum_one _ _ _ _ _ _ wq8 (HR13.out.below HBQ8.out) (HRN.out.below (((((((Below.refl wn.heap.size wn).drew).trans (HBQ1.out.mono ((Below.refl wn.heap.size wn).drew).size)).trans (HBQ2.out.mono (((Below.refl wn.heap.size wn).drew).trans (HBQ1.out.mono ((Below.refl wn.heap.size wn).drew).size)).size)).trans (HBQ3.out.mono ((((Below.refl wn.heap.size wn).drew).trans (HBQ1.out.mono ((Below.refl wn.heap.size wn).drew).size)).trans (HBQ2.out.mono (((Below.refl wn.heap.size wn).drew).trans (HBQ1.out.mono ((Below.refl wn.heap.size wn).drew).size)).size)).size)).trans (HBQ7.out.mono (((((Below.refl wn.heap.size wn).drew).trans (HBQ1.out.mono ((Below.refl wn.heap.size wn).drew).size)).trans (HBQ2.out.mono (((Below.refl wn.heap.size wn).drew).trans (HBQ1.out.mono ((Below.refl wn.heap.size wn).drew).size)).size)).trans (HBQ3.out.mono ((((Below.refl wn.heap.size wn).drew).trans (HBQ1.out.mono ((Below.refl wn.heap.size wn).drew).size)).trans (HBQ2.out.mono (((Below.refl wn.heap.size wn).drew).trans (HBQ1.out.mono ((Below.refl wn.heap.size wn).drew).size)).size)).size)).size)).trans (HBQ8.out.mono ((((((Below.refl wn.heap.size wn).drew).trans (HBQ1.out.mono ((Below.refl wn.heap.size wn).drew).size)).trans (HBQ2.out.mono (((Below.refl wn.heap.size wn).drew).trans (HBQ1.out.mono ((Below.refl wn.heap.size wn).drew).size)).size)).trans (HBQ3.out.mono ((((Below.refl wn.heap.size wn).drew).trans (HBQ1.out.mono ((Below.refl wn.heap.size wn).drew).size)).trans (HBQ2.out.mono (((Below.refl wn.heap.size wn).drew).trans (HBQ1.out.mono ((Below.refl wn.heap.size wn).drew).size)).size)).size)).trans (HBQ7.out.mono (((((Below.refl wn.heap.size wn).drew).trans (HBQ1.out.mono ((Below.refl wn.heap.size wn).drew).size)).trans (HBQ2.out.mono (((Below.refl wn.heap.size wn).drew).trans (HBQ1.out.mono ((Below.refl wn.heap.size wn).drew).size)).size)).trans (HBQ3.out.mono ((((Below.refl wn.heap.size wn).drew).trans (HBQ1.out.mono ((Below.refl wn.heap.size wn).drew).size)).trans (HBQ2.out.mono (((Below.refl wn.heap.size wn).drew).trans (HBQ1.out.mono ((Below.refl wn.heap.size wn).drew).size)).size)).size)).size)).size))) HLEN.out).mono ?_
             rintro e wq9 ⟨A14, c14, rfl, hs14, hb14⟩
             have HS14 := Lib.hid hs14
             have HBQ9 := Lib.hid hb14
             clear hs14 hb14
             go_wp2_with fail
             refine hK.out _ _ HBQ9.out (fun _ => ?_)
             clear hK K
             try simp only [Act.put, List.setIfInBounds_toArray, List.set_cons_zero, List.set_cons_succ]
             refine wpAnyH_mono (S' := fun w' => Below wq9.heap.size wq9 w') (fun w' h => HBQ9.out.trans (h.mono (by have := HBQ9.out.size; first | exact this | simpa using this))) ?_
             have hHeld : Below wq9.heap.size wq9 wq9 := Below.refl _ _
             refine held_yes (i := 15) (v := ?_) rfl (by kernel_rfl) (by kernel_rfl) (by kernel_rfl) (fun _ _ _ h => h) (by rfl) (fun w hSw => ?_) hHeld ?_
             rotate_left
             · have kc := str_of (HS14.out.rd.below hSw); go_simp; try with_reducible rfl
             simp only [List.setIfInBounds_toArray, List.set_cons_zero, List.set_cons_succ]
             refine held_yes (i := 16) (v := ?_) rfl (by kernel_rfl) (by kernel_rfl) (by kernel_rfl) (fun _ _ _ h => h) (by rfl) (fun w hSw => ?_) hHeld ?_
             rotate_left
             · go_simp; try with_reducible rfl
             simp only [List.setIfInBounds_toArray, List.set_cons_zero, List.set_cons_succ]
             refine held_yes (i := 17) (v := ?_) rfl (by kernel_rfl) (by kernel_rfl) (by kernel_rfl) (fun _ _ _ h => h) (by rfl) (fun w hSw => ?_) hHeld ?_
             rotate_left
             · go_simp; try with_reducible rfl
             simp only [List.setIfInBounds_toArray, List.set_cons_zero, List.set_cons_succ]
             refine held_yes (i := 18) (v := ?_) rfl (by kernel_rfl) (by kernel_rfl) (by kernel_rfl) (fun _ _ _ h => h) (by rfl) (fun w hSw => ?_) hHeld ?_
             rotate_left
             · go_simp; try with_reducible rfl
             simp only [List.setIfInBounds_toArray, List.set_cons_zero, List.set_cons_succ]
             refine wpAnyH_done (by kernel_rfl) ?_ _
             go_wp2_with fail
             go_ret
             exact ⟨rfl, ((HB1.out.trans (HTN.out.below.mono HB1.out.size)).trans (((((((((Below.refl wn.heap.size wn).drew).trans (HBQ1.out.mono ((Below.refl wn.heap.size wn).drew).size)).trans (HBQ2.out.mono (((Below.refl wn.heap.size wn).drew).trans (HBQ1.out.mono ((Below.refl wn.heap.size wn).drew).size)).size)).trans (HBQ3.out.mono ((((Below.refl wn.heap.size wn).drew).trans (HBQ1.out.mono ((Below.refl wn.heap.size wn).drew).size)).trans (HBQ2.out.mono (((Below.refl wn.heap.size wn).drew).trans (HBQ1.out.mono ((Below.refl wn.heap.size wn).drew).size)).size)).size)).trans (HBQ7.out.mono (((((Below.refl wn.heap.size wn).drew).trans (HBQ1.out.mono ((Below.refl wn.heap.size wn).drew).size)).trans (HBQ2.out.mono (((Below.refl wn.heap.size wn).drew).trans (HBQ1.out.mono ((Below.refl wn.heap.size wn).drew).size)).size)).trans (HBQ3.out.mono ((((Below.refl wn.heap.size wn).drew).trans (HBQ1.out.mono ((Below.refl wn.heap.size wn).drew).size)).trans (HBQ2.out.mono (((Below.refl wn.heap.size wn).drew).trans (HBQ1.out.mono ((Below.refl wn.heap.size wn).drew).size)).size)).size)).size)).trans (HBQ8.out.mono ((((((Below.refl wn.heap.size wn).drew).trans (HBQ1.out.mono ((Below.refl wn.heap.size wn).drew).size)).trans (HBQ2.out.mono (((Below.refl wn.heap.size wn).drew).trans (HBQ1.out.mono ((Below.refl wn.heap.size wn).drew).size)).size)).trans (HBQ3.out.mono ((((Below.refl wn.heap.size wn).drew).trans (HBQ1.out.mono ((Below.refl wn.heap.size wn).drew).size)).trans (HBQ2.out.mono (((Below.refl wn.heap.size wn).drew).trans (HBQ1.out.mono ((Below.refl wn.heap.size wn).drew).size)).size)).size)).trans (HBQ7.out.mono (((((Below.refl wn.heap.size wn).drew).trans (HBQ1.out.mono ((Below.refl wn.heap.size wn).drew).size)).trans (HBQ2.out.mono (((Below.refl wn.heap.size wn).drew).trans (HBQ1.out.mono ((Below.refl wn.heap.size wn).drew).size)).size)).trans (HBQ3.out.mono ((((Below.refl wn.heap.size wn).drew).trans (HBQ1.out.mono ((Below.refl wn.heap.size wn).drew).size)).trans (HBQ2.out.mono (((Below.refl wn.heap.size wn).drew).trans (HBQ1.out.mono ((Below.refl wn.heap.size wn).drew).size)).size)).size)).size)).size)).trans (HBQ9.out.mono (((((((Below.refl wn.heap.size wn).drew).trans (HBQ1.out.mono ((Below.refl wn.heap.size wn).drew).size)).trans (HBQ2.out.mono (((Below.refl wn.heap.size wn).drew).trans (HBQ1.out.mono ((Below.refl wn.heap.size wn).drew).size)).size)).trans (HBQ3.out.mono ((((Below.refl wn.heap.size wn).drew).trans (HBQ1.out.mono ((Below.refl wn.heap.size wn).drew).size)).trans (HBQ2.out.mono (((Below.refl wn.heap.size wn).drew).trans (HBQ1.out.mono ((Below.refl wn.heap.size wn).drew).size)).size)).size)).trans (HBQ7.out.mono (((((Below.refl wn.heap.size wn).drew).trans (HBQ1.out.mono ((Below.refl wn.heap.size wn).drew).size)).trans (HBQ2.out.mono (((Below.refl wn.heap.size wn).drew).trans (HBQ1.out.mono ((Below.refl wn.heap.size wn).drew).size)).size)).trans (HBQ3.out.mono ((((Below.refl wn.heap.size wn).drew).trans (HBQ1.out.mono ((Below.refl wn.heap.size wn).drew).size)).trans (HBQ2.out.mono (((Below.refl wn.heap.size wn).drew).trans (HBQ1.out.mono ((Below.refl wn.heap.size wn).drew).size)).size)).size)).size)).trans (HBQ8.out.mono ((((((Below.refl wn.heap.size wn).drew).trans (HBQ1.out.mono ((Below.refl wn.heap.size wn).drew).size)).trans (HBQ2.out.mono (((Below.refl wn.heap.size wn).drew).trans (HBQ1.out.mono ((Below.refl wn.heap.size wn).drew).size)).size)).trans (HBQ3.out.mono ((((Below.refl wn.heap.size wn).drew).trans (HBQ1.out.mono ((Below.refl wn.heap.size wn).drew).size)).trans (HBQ2.out.mono (((Below.refl wn.heap.size wn).drew).trans (HBQ1.out.mono ((Below.refl wn.heap.size wn).drew).size)).size)).size)).trans (HBQ7.out.mono (((((Below.refl wn.heap.size wn).drew).trans (HBQ1.out.mono ((Below.refl wn.heap.size wn).drew).size)).trans (HBQ2.out.mono (((Below.refl wn.heap.size wn).drew).trans (HBQ1.out.mono ((Below.refl wn.heap.size wn).drew).size)).size)).trans (HBQ3.out.mono ((((Below.refl wn.heap.size wn).drew).trans (HBQ1.out.mono ((Below.refl wn.heap.size wn).drew).size)).trans (HBQ2.out.mono (((Below.refl wn.heap.size wn).drew).trans (HBQ1.out.mono ((Below.refl wn.heap.size wn).drew).size)).size)).size)).size)).size)).size)).mono HBS.out))⟩
         · skip
           rw [if_pos (by rfl)]
           go_wp2_with fail
           refine world_at (F := fun wx => Below wn.drew.heap.size wn.drew wx ∧ Rd wx 1 (some ⟨wn.drew.heap.size, 0, none⟩) 1 1 [.slice (some ⟨b, o, none⟩) k c]) ⟨(Below.refl _ _).alloc (Nat.le_refl _) _, rd_lit wn.drew #[.slice (some ⟨b, o, none⟩) k c] _ 1 1 rfl (by simp [maxLen])⟩ (fun wq10 HF => ?_)
           have HBQ10 := Lib.hid HF.out.1
           have HR4 := Lib.hid HF.out.2
           clear HF
           refine hK.out _ _ ((Below.refl wn.heap.size wn).drew.trans HBQ10.out) (fun _ => ?_)
           clear hK K
           try simp only [Act.put, List.setIfInBounds_toArray, List.set_cons_zero, List.set_cons_succ]
           refine wpAnyH_mono (S' := fun w' => Below wq10.heap.size wq10 w') (fun w' h => ((Below.refl wn.heap.size wn).drew.trans HBQ10.out).trans (h.mono (by have := HBQ10.out.size; first | exact this | simpa using this))) ?_
           have hHeld : Below wq10.heap.size wq10 wq10 := Below.refl _ _
           refine held_only (i := 1) (by kernel_rfl) rfl (fun K hK => ?_)
           rw [if_pos (by rfl)]
           go_simp
           refine (hsum_live w1.heap.size Ag _ wq10 (HTN.out.live1.below (((Below.refl wn.heap.size wn).drew).trans (HBQ10.out.mono ((Below.refl wn.heap.size wn).drew).size))) HLEN.out).mono ?_
           rintro e wq11 ⟨A1, c1, rfl, hs1, hb1⟩
           have HS1 := Lib.hid hs1
           have HBQ11 := Lib.hid hb1
           clear hs1 hb1
           go_wp2_with fail
           refine hK.out _ _ HBQ11.out (fun _ => ?_)
           clear hK K
           try simp only [Act.put, List.setIfInBounds_toArray, List.set_cons_zero, List.set_cons_succ]
           refine wpAnyH_mono (S' := fun w' => Below wq11.heap.size wq11 w') (fun w' h => HBQ11.out.trans (h.mono (by have := HBQ11.out.size; first | exact this | simpa using this))) ?_
           have hHeld : Below wq11.heap.size wq11 wq11 := Below.refl _ _
           refine held_yes (i := 2) (v := ?_) rfl (by kernel_rfl) (by kernel_rfl) (by kernel_rfl) (fun _ _ _ h => h) (by rfl) (fun w hSw => ?_) hHeld ?_
           rotate_left
           · have kc := str_of (HS1.out.rd.below hSw); go_simp; try with_reducible rfl
           simp only [List.setIfInBounds_toArray, List.set_cons_zero, List.set_cons_succ]
           refine held_only (i := 5) (by kernel_rfl) rfl (fun K hK => ?_)
           rw [if_pos (by rfl)]
           go_simp
           refine (sum_one _ _ _ _ _ _ wq11 (HR4.out.below HBQ11.out) (HRN.out.below ((((Below.refl wn.heap.size wn).drew).trans (HBQ10.out.mono ((Below.refl wn.heap.size wn).drew).size)).trans (HBQ11.out.mono (((Below.refl wn.heap.size wn).drew).trans (HBQ10.out.mono ((Below.refl wn.heap.size wn).drew).size)).size))) HLEN.out).mono ?_
           rintro e wq12 ⟨A5, c5, rfl, hs5, hb5⟩
           have HS5 := Lib.hid hs5
           have HBQ12 := Lib.hid hb5
           clear hs5 hb5
           go_wp2_with fail
           refine hK.out _ _ HBQ12.out (fun _ => ?_)
           clear hK K
           try simp only [Act.put, List.setIfInBounds_toArray, List.set_cons_zero, List.set_cons_succ]
           refine wpAnyH_mono (S' := fun w' => Below wq12.heap.size wq12 w') (fun w' h => HBQ12.out.trans (h.mono (by have := HBQ12.out.size; first | exact this | simpa using this))) ?_
           have hHeld : Below wq12.heap.size wq12 wq12 := Below.refl _ _
           refine held_yes (i := 6) (v := ?_) rfl (by kernel_rfl) (by kernel_rfl) (by kernel_rfl) (fun _ _ _ h => h) (by rfl) (fun w hSw => ?_) hHeld ?_
           rotate_left
           · have kc := str_of (HS5.out.rd.below hSw); go_simp; try with_reducible rfl
           simp only [List.setIfInBounds_toArray, List.set_cons_zero, List.set_cons_succ]
           refine held_yes (i := 7) (v := ?_) rfl (by kernel_rfl) (by kernel_rfl) (by kernel_rfl) (fun _ _ _ h => h) (by rfl) (fun w hSw => ?_) hHeld ?_
           rotate_left
           · go_simp; try with_reducible rfl
           simp only [List.setIfInBounds_toArray, List.set_cons_zero, List.set_cons_succ]
           refine held_yes (i := 8) (v := ?_) rfl (by kernel_rfl) (by kernel_rfl) (by kernel_rfl) (fun _ _ _ h => h) (by rfl) (fun w hSw => ?_) hHeld ?_
           rotate_left
           · go_simp; try with_reducible rfl
           simp only [List.setIfInBounds_toArray, List.set_cons_zero, List.set_cons_succ]
           refine held_yes (i := 9) (v := ?_) rfl (by kernel_rfl) (by kernel_rfl) (by kernel_rfl) (fun _ _ _ h => h) (by rfl) (fun w hSw => ?_) hHeld ?_
           rotate_left
           · go_simp; try with_reducible rfl
           simp only [List.setIfInBounds_toArray, List.set_cons_zero, List.set_cons_succ]
           refine held_yes (i := 12) (v := ?_) rfl (by kernel_rfl) (by kernel_rfl) (by kernel_rfl) (fun _ _ _ h => h) (by rfl) (fun w hSw => ?_) hHeld ?_
           rotate_left
           · go_simp; try with_reducible rfl
           simp only [List.setIfInBounds_toArray, List.set_cons_zero, List.set_cons_succ]
           refine wpAnyH_ready (rs := [10, 13]) (by kernel_rfl) (by simp) (AllReadyH.cons rfl (fun K hK => ?_) (AllReadyH.cons rfl (fun K hK => ?_) AllReadyH.nil))
           · skip
             rw [if_pos (by rfl)]
             go_simp
             refine (hsum_live (w1.heap.size + 1) A3 _ wq12 (HTN.out.live2.below (((((Below.refl wn.heap.size wn).drew).trans (HBQ10.out.mono ((Below.refl wn.heap.size wn).drew).size)).trans (HBQ11.out.mono (((Below.refl wn.heap.size wn).drew).trans (HBQ10.out.mono ((Below.refl wn.heap.size wn).drew).size)).size)).trans (HBQ12.out.mono ((((Below.refl wn.heap.size wn).drew).trans (HBQ10.out.mono ((Below.refl wn.heap.size wn).drew).size)).trans (HBQ11.out.mono (((Below.refl wn.heap.size wn).drew).trans (HBQ10.out.mono ((Below.refl wn.heap.size wn).drew).size)).size)).size))) HLEN.out).mono ?_
             rintro e wq13 ⟨A10, c10, rfl, hs10, hb10⟩
             have HS10 := Lib.hid hs10
             have HBQ13 := Lib.hid hb10
             clear hs10 hb10
             go_wp2_with fail
             refine hK.out _ _ HBQ13.out (fun _ => ?_)
             clear hK K
             try simp only [Act.put, List.setIfInBounds_toArray, List.set_cons_zero, List.set_cons_succ]
             refine wpAnyH_mono (S' := fun w' => Below wq13.heap.size wq13 w') (fun w' h => HBQ13.out.trans (h.mono (by have := HBQ13.out.size; first | exact this | simpa using this))) ?_
             have hHeld : Below wq13.heap.size wq13 wq13 := Below.refl _ _
             refine held_yes (i := 11) (v := ?_) rfl (by kernel_rfl) (by kernel_rfl) (by kernel_rfl) (fun _ _ _ h => h) (by rfl) (fun w hSw => ?_) hHeld ?_
             rotate_left
             · have kc := str_of (HS10.out.rd.below hSw); go_simp; try with_reducible rfl
             simp only [List.setIfInBounds_toArray, List.set_cons_zero, List.set_cons_succ]
             refine held_only (i := 13) (by kernel_rfl) rfl (fun K hK => ?_)
             rw [if_pos (by rfl)]
             go_wp2_with fail
             refine world_at (F := fun wx => Below wq13.heap.size wq13 wx ∧ Rd wx 1 (some ⟨wq13.heap.size, 0, none⟩) 1 1 [.slice (some ⟨b, o, none⟩) k c]) ⟨(Below.refl _ _).alloc (Nat.le_refl _) _, rd_lit wq13 #[.slice (some ⟨b, o, none⟩) k c] _ 1 1 rfl (by simp [maxLen])⟩ (fun wq14 HF => ?_)
             have HBQ14 := Lib.hid HF.out.1
             have HR13 := Lib.hid HF.out.2
             clear HF
             refine hK.out _ _ HBQ14.out (fun _ => ?_)
             clear hK K
             try simp only [Act.put, List.setIfInBounds_toArray, List.set_cons_zero, List.set_cons_succ]
             refine wpAnyH_mono (S' := fun w' => Below wq14.heap.size wq14 w') (fun w' h => HBQ14.out.trans (h.mono (by have := HBQ14.out.size; first | exact this | simpa using this))) ?_
             have hHeld : Below wq14.heap.size wq14 wq14 := Below.refl _ _
             refine held_only (i := 14) (by kernel_rfl) rfl (fun K hK => ?_)
             rw [if_pos (by rfl)]
             go_simp
             refine (sum_one _ _ _ _ _ _ wq14 (HR13.out.below (Below.refl _ _)) (HRN.out.below (((((((Below.refl wn.heap.size wn).drew).trans (HBQ10.out.mono ((Below.refl wn.heap.size wn).drew).size)).trans (HBQ11.out.mono (((Below.refl wn.heap.size wn).drew).trans (HBQ10.out.mono ((Below.refl wn.heap.size wn).drew).size)).size)).trans (HBQ12.out.mono ((((Below.refl wn.heap.size wn).drew).trans (HBQ10.out.mono ((Below.refl wn.heap.size wn).drew).size)).trans (HBQ11.out.mono (((Below.refl wn.heap.size wn).drew).trans (HBQ10.out.mono ((Below.refl wn.heap.size wn).drew).size)).size)).size)).trans (HBQ13.out.mono (((((Below.refl wn.heap.size wn).drew).trans (HBQ10.out.mono ((Below.refl wn.heap.size wn).drew).size)).trans (HBQ11.out.mono (((Below.refl wn.heap.size wn).drew).trans (HBQ10.out.mono ((Below.refl wn.heap.size wn).drew).size)).size)).trans (HBQ12.out.mono ((((Below.refl wn.heap.size wn).drew).trans (HBQ10.out.mono ((Below.refl wn.heap.size wn).drew).size)).trans (HBQ11.out.mono (((Below.refl wn.heap.size wn).drew).trans (HBQ10.out.mono ((Below.refl wn.heap.size wn).drew).size)).size)).size)).size)).trans (HBQ14.out.mono ((((((Below.refl wn.heap.size wn).drew).trans (HBQ10.out.mono ((Below.refl wn.heap.size wn).drew).size)).trans (HBQ11.out.mono (((Below.refl wn.heap.size wn).drew).trans (HBQ10.out.mono ((Below.refl wn.heap.size wn).drew).size)).size)).trans (HBQ12.out.mono ((((Below.refl wn.heap.size wn).drew).trans (HBQ10.out.mono ((Below.refl wn.heap.size wn).drew).size)).trans (HBQ11.out.mono (((Below.refl wn.heap.size wn).drew).trans (HBQ10.out.mono ((Below.refl wn.heap.size wn).drew).size)).size)).size)).trans (HBQ13.out.mono (((((Below.refl wn.heap.size wn).drew).trans (HBQ10.out.mono ((Below.refl wn.heap.size wn).drew).size)).trans (HBQ11.out.mono (((Below.refl wn.heap.size wn).drew).trans (HBQ10.out.mono ((Below.refl wn.heap.size wn).drew).size)).size)).trans (HBQ12.out.mono ((((Below.refl wn.heap.size wn).drew).trans (HBQ10.out.mono ((Below.refl wn.heap.size wn).drew).size)).trans (HBQ11.out.mono (((Below.refl wn.heap.size wn).drew).trans (HBQ10.out.mono ((Below.refl wn.heap.size wn).drew).size)).size)).size)).size)).size))) HLEN.out).mono ?_
             rintro e wq15 ⟨A14, c14, rfl, hs14, hb14⟩
             have HS14 := Lib.hid hs14
             have HBQ15 := Lib.hid hb14
             clear hs14 hb14
             go_wp2_with fail
             refine hK.out _ _ HBQ15.out (fun _ => ?_)
             clear hK K
             try simp only [Act.put, List.setIfInBounds_toArray, List.set_cons_zero, List.set_cons_succ]
             refine wpAnyH_mono (S' := fun w' => Below wq15.heap.size wq15 w') (fun w' h => HBQ15.out.trans (h.mono (by have := HBQ15.out.size; first | exact this | simpa using this))) ?_
             have hHeld : Below wq15.heap.size wq15 wq15 := Below.refl _ _
             refine held_yes (i := 15) (v := ?_) rfl (by kernel_rfl) (by kernel_rfl) (by kernel_rfl) (fun _ _ _ h => h) (by rfl) (fun w hSw => ?_) hHeld ?_
             rotate_left
             · have kc := str_of (HS14.out.rd.below hSw); go_simp; try with_reducible rfl
             simp only [List.setIfInBounds_toArray, List.set_cons_zero, List.set_cons_succ]
             refine held_yes (i := 16) (v := ?_) rfl (by kernel_rfl) (by kernel_rfl) (by kernel_rfl) (fun _ _ _ h => h) (by rfl) (fun w hSw => ?_) hHeld ?_
             rotate_left
             · go_simp; try with_reducible rfl
             simp only [List.setIfInBounds_toArray, List.set_cons_zero, List.set_cons_succ]
             refine held_yes (i := 17) (v := ?_) rfl (by kernel_rfl) (by kernel_rfl) (by kernel_rfl) (fun _ _ _ h => h) (by rfl) (fun w hSw => ?_) hHeld ?_
             rotate_left
             · go_simp; try with_reducible rfl
             simp only [List.setIfInBounds_toArray, List.set_cons_zero, List.set_cons_succ]
             refine held_yes (i := 18) (v := ?_) rfl (by kernel_rfl) (by kernel_rfl) (by kernel_rfl) (fun _ _ _ h => h) (by rfl) (fun w hSw => ?_) hHeld ?_
             rotate_left
             · go_simp; try with_reducible rfl
             simp only [List.setIfInBounds_toArray, List.set_cons_zero, List.set_cons_succ]
             refine wpAnyH_done (by kernel_rfl) ?_ _
             go_wp2_with fail
             go_ret
             exact ⟨rfl, ((HB1.out.trans (HTN.out.below.mono HB1.out.size)).trans (((((((((Below.refl wn.heap.size wn).drew).trans (HBQ10.out.mono ((Below.refl wn.heap.size wn).drew).size)).trans (HBQ11.out.mono (((Below.refl wn.heap.size wn).drew).trans (HBQ10.out.mono ((Below.refl wn.heap.size wn).drew).size)).size)).trans (HBQ12.out.mono ((((Below.refl wn.heap.size wn).drew).trans (HBQ10.out.mono ((Below.refl wn.heap.size wn).drew).size)).trans (HBQ11.out.mono (((Below.refl wn.heap.size wn).drew).trans (HBQ10.out.mono ((Below.refl wn.heap.size wn).drew).size)).size)).size)).trans (HBQ13.out.mono (((((Below.refl wn.heap.size wn).drew).trans (HBQ10.out.mono ((Below.refl wn.heap.size wn).drew).size)).trans (HBQ11.out.mono (((Below.refl wn.heap.size wn).drew).trans (HBQ10.out.mono ((Below.refl wn.heap.size wn).drew).size)).size)).trans (HBQ12.out.mono ((((Below.refl wn.heap.size wn).drew).trans (HBQ10.out.mono ((Below.refl wn.heap.size wn).drew).size)).trans (HBQ11.out.mono (((Below.refl wn.heap.size wn).drew).trans (HBQ10.out.mono ((Below.refl wn.heap.size wn).drew).size)).size)).size)).size)).trans (HBQ14.out.mono ((((((Below.refl wn.heap.size wn).drew).trans (HBQ10.out.mono ((Below.refl wn.heap.size wn).drew).size)).trans (HBQ11.out.mono (((Below.refl wn.heap.size wn).drew).trans (HBQ10.out.mono ((Below.refl wn.heap.size wn).drew).size)).size)).trans (HBQ12.out.mono ((((Below.refl wn.heap.size wn).drew).trans (HBQ10.out.mono ((Below.refl wn.heap.size wn).drew).size)).trans (HBQ11.out.mono (((Below.refl wn.heap.size wn).drew).trans (HBQ10.out.mono ((Below.refl wn.heap.size wn).drew).size)).size)).size)).trans (HBQ13.out.mono (((((Below.refl wn.heap.size wn).drew).trans (HBQ10.out.mono ((Below.refl wn.heap.size wn).drew).size)).trans (HBQ11.out.mono (((Below.refl wn.heap.size wn).drew).trans (HBQ10.out.mono ((Below.refl wn.heap.size wn).drew).size)).size)).trans (HBQ12.out.mono ((((Below.refl wn.heap.size wn).drew).trans (HBQ10.out.mono ((Below.refl wn.heap.size wn).drew).size)).trans (HBQ11.out.mono (((Below.refl wn.heap.size wn).drew).trans (HBQ10.out.mono ((Below.refl wn.heap.size wn).drew).size)).size)).size)).size)).size)).trans (HBQ15.out.mono (((((((Below.refl wn.heap.size wn).drew).trans (HBQ10.out.mono ((Below.refl wn.heap.size wn).drew).size)).trans (HBQ11.out.mono (((Below.refl wn.heap.size wn).drew).trans (HBQ10.out.mono ((Below.refl wn.heap.size wn).drew).size)).size)).trans (HBQ12.out.mono ((((Below.refl wn.heap.size wn).drew).trans (HBQ10.out.mono ((Below.refl wn.heap.size wn).drew).size)).trans (HBQ11.out.mono (((Below.refl wn.heap.size wn).drew).trans (HBQ10.out.mono ((Below.refl wn.heap.size wn).drew).size)).size)).size)).trans (HBQ13.out.mono (((((Below.refl wn.heap.size wn).drew).trans (HBQ10.out.mono ((Below.refl wn.heap.size wn).drew).size)).trans (HBQ11.out.mono (((Below.refl wn.heap.size wn).drew).trans (HBQ10.out.mono ((Below.refl wn.heap.size wn).drew).size)).size)).trans (HBQ12.out.mono ((((Below.refl wn.heap.size wn).drew).trans (HBQ10.out.mono ((Below.refl wn.heap.size wn).drew).size)).trans (HBQ11.out.mono (((Below.refl wn.heap.size wn).drew).trans (HBQ10.out.mono ((Below.refl wn.heap.size wn).drew).size)).size)).size)).size)).trans (HBQ14.out.mono ((((((Below.refl wn.heap.size wn).drew).trans (HBQ10.out.mono ((Below.refl wn.heap.size wn).drew).size)).trans (HBQ11.out.mono (((Below.refl wn.heap.size wn).drew).trans (HBQ10.out.mono ((Below.refl wn.heap.size wn).drew).size)).size)).trans (HBQ12.out.mono ((((Below.refl wn.heap.size wn).drew).trans (HBQ10.out.mono ((Below.refl wn.heap.size wn).drew).size)).trans (HBQ11.out.mono (((Below.refl wn.heap.size wn).drew).trans (HBQ10.out.mono ((Below.refl wn.heap.size wn).drew).size)).size)).size)).trans (HBQ13.out.mono (((((Below.refl wn.heap.size wn).drew).trans (HBQ10.out.mono ((Below.refl wn.heap.size wn).drew).size)).trans (HBQ11.out.mono (((Below.refl wn.heap.size wn).drew).trans (HBQ10.out.mono ((Below.refl wn.heap.size wn).drew).size)).size)).trans (HBQ12.out.mono ((((Below.refl wn.heap.size wn).drew).trans (HBQ10.out.mono ((Below.refl wn.heap.size wn).drew).size)).trans (HBQ11.out.mono (((Below.refl wn.heap.size wn).drew).trans (HBQ10.out.mono ((Below.refl wn.heap.size wn).drew).size)).size)).size)).size)).size)).size)).mono HBS.out))⟩
           · skip
             rw [if_pos (by rfl)]
             go_wp2_with fail
             refine world_at (F := fun wx => Below wq12.heap.size wq12 wx ∧ Rd wx 1 (some ⟨wq12.heap.size, 0, none⟩) 1 1 [.slice (some ⟨b, o, none⟩) k c]) ⟨(Below.refl _ _).alloc (Nat.le_refl _) _, rd_lit wq12 #[.slice (some ⟨b, o, none⟩) k c] _ 1 1 rfl (by simp [maxLen])⟩ (fun wq16 HF => ?_)
             have HBQ16 := Lib.hid HF.out.1
             have HR13 := Lib.hid HF.out.2
             clear HF
             refine hK.out _ _ HBQ16.out (fun _ => ?_)
             clear hK K
             try simp only [Act.put, List.setIfInBounds_toArray, List.set_cons_zero, List.set_cons_succ]
             refine wpAnyH_mono (S' := fun w' => Below wq16.heap.size wq16 w') (fun w' h => HBQ16.out.trans (h.mono (by have := HBQ16.out.size; first | exact this | simpa using this))) ?_
             have hHeld : Below wq16.heap.size wq16 wq16 := Below.refl _ _
             refine held_only (i := 10) (by kernel_rfl) rfl (fun K hK => ?_)
             rw [if_pos (by rfl)]
             go_simp
             refine (hsum_live (w1.heap.size + 1) A3 _ wq16 (HTN.out.live2.below ((((((Below.refl wn.heap.size wn).drew).trans (HBQ10.out.mono ((Below.refl wn.heap.size wn).drew).size)).trans (HBQ11.out.mono (((Below.refl wn.heap.size wn).drew).trans (HBQ10.out.mono ((Below.refl wn.heap.size wn).drew).size)).size)).trans (HBQ12.out.mono ((((Below.refl wn.heap.size wn).drew).trans (HBQ10.out.mono ((Below.refl wn.heap.size wn).drew).size)).trans (HBQ11.out.mono (((Below.refl wn.heap.size wn).drew).trans (HBQ10.out.mono ((Below.refl wn.heap.size wn).drew).size)).size)).size)).trans (HBQ16.out.mono (((((Below.refl wn.heap.size wn).drew).trans (HBQ10.out.mono ((Below.refl wn.heap.size wn).drew).size)).trans (HBQ11.out.mono (((Below.refl wn.heap.size wn).drew).trans (HBQ10.out.mono ((Below.refl wn.heap.size wn).drew).size)).size)).trans (HBQ12.out.mono ((((Below.refl wn.heap.size wn).drew).trans (HBQ10.out.mono ((Below.refl wn.heap.size wn).drew).size)).trans (HBQ11.out.mono (((Below.refl wn.heap.size wn).drew).trans (HBQ10.out.mono ((Below.refl wn.heap.size wn).drew).size)).size)).size)).size))) HLEN.out).mono ?_
             rintro e wq17 ⟨A10, c10, rfl, hs10, hb10⟩
             have HS10 := Lib.hid hs10
             have HBQ17 := Lib.hid hb10
             clear hs10 hb10
             go_wp2_with fail
             refine hK.out _ _ HBQ17.out (fun _ => ?_)
             clear hK K
             try simp only [Act.put, List.setIfInBounds_toArray, List.set_cons_zero, List.set_cons_succ]
             refine wpAnyH_mono (S' := fun w' => Below wq17.heap.size wq17 w') (fun w' h => HBQ17.out.trans (h.mono (by have := HBQ17.out.size; first | exact this | simpa using this))) ?_
             have hHeld : Below wq17.heap.size wq17 wq17 := Below.refl _ _
             refine held_yes (i := 11) (v := ?_) rfl (by kernel_rfl) (by kernel_rfl) (by kernel_rfl) (fun _ _ _ h => h) (by rfl) (fun w hSw => ?_) hHeld ?_
             rotate_left
             · have kc := str_of (HS10.out.rd.below hSw); go_simp; try with_reducible rfl
             simp only [List.setIfInBounds_toArray, List.set_cons_zero, List.set_cons_succ]
             refine held_only (i := 14) (by kernel_rfl) rfl (fun K hK => ?_)
             rw [if_pos (by rfl)]
             go_simp
             refine (sum_one _ _ _ _ _ _ wq17 (HR13.out.below HBQ17.out) (HRN.out.below (((((((Below.refl wn.heap.size wn).drew).trans (HBQ10.out.mono ((Below.refl wn.heap.size wn).drew).size)).trans (HBQ11.out.mono (((Below.refl wn.heap.size wn).drew).trans (HBQ10.out.mono ((Below.refl wn.heap.size wn).drew).size)).size)).trans (HBQ12.out.mono ((((Below.refl wn.heap.size wn).drew).trans (HBQ10.out.mono ((Below.refl wn.heap.size wn).drew).size)).trans (HBQ11.out.mono (((Below.refl wn.heap.size wn).drew).trans (HBQ10.out.mono ((Below.refl wn.heap.size wn).drew).size)).size)).size)).trans (HBQ16.out.mono (((((Below.refl wn.heap.size wn).drew).trans (HBQ10.out.mono ((Below.refl wn.heap.size wn).drew).size)).trans (HBQ11.out.mono (((Below.refl wn.heap.size wn).drew).trans (HBQ10.out.mono ((Below.refl wn.heap.size wn).drew).size)).size)).trans (HBQ12.out.mono ((((Below.refl wn.heap.size wn).drew).trans (HBQ10.out.mono ((Below.refl wn.heap.size wn).drew).size)).trans (HBQ11.out.mono (((Below.refl wn.heap.size wn).drew).trans (HBQ10.out.mono ((Below.refl wn.heap.size wn).drew).size)).size)).size)).size)).trans (HBQ17.out.mono ((((((Below.refl wn.heap.size wn).drew).trans (HBQ10.out.mono ((Below.refl wn.heap.size wn).drew).size)).trans (HBQ11.out.mono (((Below.refl wn.heap.size wn).drew).trans (HBQ10.out.mono ((Below.refl wn.heap.size wn).drew).size)).size)).trans (HBQ12.out.mono ((((Below.refl wn.heap.size wn).drew).trans (HBQ10.out.mono ((Below.refl wn.heap.size wn).drew).size)).trans (HBQ11.out.mono (((Below.refl wn.heap.size wn).drew).trans (HBQ10.out.mono ((Below.refl wn.heap.size wn).drew).size)).size)).size)).trans (HBQ16.out.mono (((((Below.refl wn.heap.size wn).drew).trans (HBQ10.out.mono ((Below.refl wn.heap.size wn).drew).size)).trans (HBQ11.out.mono (((Below.refl wn.heap.size wn).drew).trans (HBQ10.out.mono ((Below.refl wn.heap.size wn).drew).size)).size)).trans (HBQ12.out.mono ((((Below.refl wn.heap.size wn).drew).trans (HBQ10.out.mono ((Below.refl wn.heap.size wn).drew).size)).trans (HBQ11.out.mono (((Below.refl wn.heap.size wn).drew).trans (HBQ10.out.mono ((Below.refl wn.heap.size wn).drew).size)).size)).size)).size)).size))) HLEN.out).mono ?_
             rintro e wq18 ⟨A14, c14, rfl, hs14, hb14⟩
             have HS14 := Lib.hid hs14
             have HBQ18 := Lib.hid hb14
             clear hs14 hb14
             go_wp2_with fail
             refine hK.out _ _ HBQ18.out (fun _ => ?_)
             clear hK K
             try simp only [Act.put, List.setIfInBounds_toArray, List.set_cons_zero, List.set_cons_succ]
             refine wpAnyH_mono (S' := fun w' => Below wq18.heap.size wq18 w') (fun w' h => HBQ18.out.trans (h.mono (by have := HBQ18.out.size; first | exact this | simpa using this))) ?_
             have hHeld : Below wq18.heap.size wq18 wq18 := Below.refl _ _
             refine held_yes (i := 15) (v := ?_) rfl (by kernel_rfl) (by kernel_rfl) (by kernel_rfl) (fun _ _ _ h => h) (by rfl) (fun w hSw => ?_) hHeld ?_
             rotate_left
             · have kc := str_of (HS14.out.rd.below hSw); go_simp; try with_reducible rfl
             simp only [List.setIfInBounds_toArray, List.set_cons_zero, List.set_cons_succ]
             refine held_yes (i := 16) (v := ?_) rfl (by kernel_rfl) (by kernel_rfl) (by kernel_rfl) (fun _ _ _ h => h) (by rfl) (fun w hSw => ?_) hHeld ?_
             rotate_left
             · go_simp; try with_reducible rfl
             simp only [List.setIfInBounds_toArray, List.set_cons_zero, List.set_cons_succ]
             refine held_yes (i := 17) (v := ?_) rfl (by kernel_rfl) (by kernel_rfl) (by kernel_rfl) (fun _ _ _ h => h) (by rfl) (fun w hSw => ?_) hHeld ?_
             rotate_left
             · go_simp; try with_reducible rfl
             simp only [List.setIfInBounds_toArray, List.set_cons_zero, List.set_cons_succ]
             refine held_yes (i := 18) (v := ?_) rfl (by kernel_rfl) (by kernel_rfl) (by kernel_rfl) (fun _ _ _ h => h) (by rfl) (fun w hSw => ?_) hHeld ?_
             rotate_left
             · go_simp; try with_reducible rfl
             simp only [List.setIfInBounds_toArray, List.set_cons_zero, List.set_cons_succ]
             refine wpAnyH_done (by kernel_rfl) ?_ _
             go_wp2_with fail
             go_ret
             exact ⟨rfl, ((HB1.out.trans (HTN.out.below.mono HB1.out.size)).trans (((((((((Below.refl wn.heap.size wn).drew).trans (HBQ10.out.mono ((Below.refl wn.heap.size wn).drew).size)).trans (HBQ11.out.mono (((Below.refl wn.heap.size wn).drew).trans (HBQ10.out.mono ((Below.refl wn.heap.size wn).drew).size)).size)).trans (HBQ12.out.mono ((((Below.refl wn.heap.size wn).drew).trans (HBQ10.out.mono ((Below.refl wn.heap.size wn).drew).size)).trans (HBQ11.out.mono (((Below.refl wn.heap.size wn).drew).trans (HBQ10.out.mono ((Below.refl wn.heap.size wn).drew).size)).size)).size)).trans (HBQ16.out.mono (((((Below.refl wn.heap.size wn).drew).trans (HBQ10.out.mono ((Below.refl wn.heap.size wn).drew).size)).trans (HBQ11.out.mono (((Below.refl wn.heap.size wn).drew).trans (HBQ10.out.mono ((Below.refl wn.heap.size wn).drew).size)).size)).trans (HBQ12.out.mono ((((Below.refl wn.heap.size wn).drew).trans (HBQ10.out.mono ((Below.refl wn.heap.size wn).drew).size)).trans (HBQ11.out.mono (((Below.refl wn.heap.size wn).drew).trans (HBQ10.out.mono ((Below.refl wn.heap.size wn).drew).size)).size)).size)).size)).trans (HBQ17.out.mono ((((((Below.refl wn.heap.size wn).drew).trans (HBQ10.out.mono ((Below.refl wn.heap.size wn).drew).size)).trans (HBQ11.out.mono (((Below.refl wn.heap.size wn).drew).trans (HBQ10.out.mono ((Below.refl wn.heap.size wn).drew).size)).size)).trans (HBQ12.out.mono ((((Below.refl wn.heap.size wn).drew).trans (HBQ10.out.mono ((Below.refl wn.heap.size wn).drew).size)).trans (HBQ11.out.mono (((Below.refl wn.heap.size wn).drew).trans (HBQ10.out.mono ((Below.refl wn.heap.size wn).drew).size)).size)).size)).trans (HBQ16.out.mono (((((Below.refl wn.heap.size wn).drew).trans (HBQ10.out.mono ((Below.refl wn.heap.size wn).drew).size)).trans (HBQ11.out.mono (((Below.refl wn.heap.size wn).drew).trans (HBQ10.out.mono ((Below.refl wn.heap.size wn).drew).size)).size)).trans (HBQ12.out.mono ((((Below.refl wn.heap.size wn).drew).trans (HBQ10.out.mono ((Below.refl wn.heap.size wn).drew).size)).trans (HBQ11.out.mono (((Below.refl wn.heap.size wn).drew).trans (HBQ10.out.mono ((Below.refl wn.heap.size wn).drew).size)).size)).size)).size)).size)).trans (HBQ18.out.mono (((((((Below.refl wn.heap.size wn).drew).trans (HBQ10.out.mono ((Below.refl wn.heap.size wn).drew).size)).trans (HBQ11.out.mono (((Below.refl wn.heap.size wn).drew).trans (HBQ10.out.mono ((Below.refl wn.heap.size wn).drew).size)).size)).trans (HBQ12.out.mono ((((Below.refl wn.heap.size wn).drew).trans (HBQ10.out.mono ((Below.refl wn.heap.size wn).drew).size)).trans (HBQ11.out.mono (((Below.refl wn.heap.size wn).drew).trans (HBQ10.out.mono ((Below.refl wn.heap.size wn).drew).size)).size)).size)).trans (HBQ16.out.mono (((((Below.refl wn.heap.size wn).drew).trans (HBQ10.out.mono ((Below.refl wn.heap.size wn).drew).size)).trans (HBQ11.out.mono (((Below.refl wn.heap.size wn).drew).trans (HBQ10.out.mono ((Below.refl wn.heap.size wn).drew).size)).size)).trans (HBQ12.out.mono ((((Below.refl wn.heap.size wn).drew).trans (HBQ10.out.mono ((Below.refl wn.heap.size wn).drew).size)).trans (HBQ11.out.mono (((Below.refl wn.heap.size wn).drew).trans (HBQ10.out.mono ((Below.refl wn.heap.size wn).drew).size)).size)).size)).size)).trans (HBQ17.out.mono ((((((Below.refl wn.heap.size wn).drew).trans (HBQ10.out.mono ((Below.refl wn.heap.size wn).drew).size)).trans (HBQ11.out.mono (((Below.refl wn.heap.size wn).drew).trans (HBQ10.out.mono ((Below.refl wn.heap.size wn).drew).size)).size)).trans (HBQ12.out.mono ((((Below.refl wn.heap.size wn).drew).trans (HBQ10.out.mono ((Below.refl wn.heap.size wn).drew).size)).trans (HBQ11.out.mono (((Below.refl wn.heap.size wn).drew).trans (HBQ10.out.mono ((Below.refl wn.heap.size wn).drew).size)).size)).size)).trans (HBQ16.out.mono (((((Below.refl wn.heap.size wn).drew).trans (HBQ10.out.mono ((Below.refl wn.heap.size wn).drew).size)).trans (HBQ11.out.mono (((Below.refl wn.heap.size wn).drew).trans (HBQ10.out.mono ((Below.refl wn.heap.size wn).drew).size)).size)).trans (HBQ12.out.mono ((((Below.refl wn.heap.size wn).drew).trans (HBQ10.out.mono ((Below.refl wn.heap.size wn).drew).size)).trans (HBQ11.out.mono (((Below.refl wn.heap.size wn).drew).trans (HBQ10.out.mono ((Below.refl wn.heap.size wn).drew).size)).size)).size)).size)).size)).size)).mono HBS.out))⟩
end Go.Proofs.Ytpcncogmhnncpaa
