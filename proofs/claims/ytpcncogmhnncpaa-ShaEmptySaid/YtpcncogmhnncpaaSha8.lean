/- The walks of the laws of layer 1 that speak of the program alone: anchor, ShaParts. -/
import Derived.Test.YtpcncogmhnncpaaSha7
import Derived.Test.YtpcncogmhnncpaaArg
namespace Go.Proofs.Ytpcncogmhnncpaa
open Go.RowKit
set_option linter.unusedVariables false
set_option linter.unusedSimpArgs false

theorem open_bytes1 : Opens Try.prog 23 RBytes := opens_bytes Try.underlying23 Try.underlying5 (by kernel_rfl)
theorem sum_one (Ap : Option Addr) (cp : Nat) (A : Option Addr) (n c : Nat) (bs : List UInt8) (w : World) (hp : Rd w 1 Ap 1 cp [.slice A n c]) (hr : Rd w 1 A n c (bvs bs)) (hm : bs.length ≤ 1099511627776) :
    Calls Try.prog 27 #[.slice Ap 1 cp] w fun e w' => ∃ A' c', e = .returned (.slice A' 32 c') ∧ Seg w' w.heap.size 1 A' 32 c' (bvs (sumB bs)) ∧ Below w.heap.size w w' := by
  have h := sum_any Ap 1 cp [.slice A n c] [bs] w hp (Parts.one hr) (by simpa using hm)
  rwa [show [bs].flatten = bs by simp] at h
theorem str_of {w : World} {A : Option Addr} {n c : Nat} {bs : List UInt8} (h : Rd w 1 A n c (bvs bs)) : (convert 23 9 (.slice A n c)).run Try.prog w = .ok (.string ⟨bs.toArray⟩) w :=
  run_string_rd (P := Try.prog) (src := 23) (dst := 9) Try.underlying23 Try.underlying5 Try.underlying9 h

theorem rd_lit_f (w : World) (cs : Array Value) (e : TypeId) (f : Nat × Nat) (n : Nat) (bs : List UInt8) (hs : cs.toList = bvs bs) (hn : bs.length = n) (hm : n ≤ maxLen) : Rd (w.alloc (.cells cs e f)) 1 (some ⟨w.heap.size, 0, none⟩) n n (bvs bs) := by
  have hnew := heap_alloc_new w (.cells cs e f)
  refine ⟨by rw [bvs_length]; omega, Nat.le_refl _, hm, (fun h => by cases h), .inr ⟨w.heap.size, 0, rfl, fun j u hu => ?_⟩⟩
  simp only [World.cell?, hnew, Nat.zero_add]
  rw [← hs] at hu
  simpa using hu
set_option maxHeartbeats 400000 in
theorem anchor1 (w : World) : Calls Try.prog 26 #[] w (Tells w true) := by
  have h1 := Lib.hid (sum_one (some ⟨w.heap.size + 1, 0, none⟩) 1 (some ⟨w.heap.size, 0, none⟩) 3 3 [97, 98, 99] ((w.alloc (.cells #[.int .u8 97, .int .u8 98, .int .u8 99] 5 (3, 4))).alloc (.cells #[.slice (some ⟨w.heap.size, 0, none⟩) 3 3] 23))
    (by have := rd_lit (w.alloc (.cells #[.int .u8 97, .int .u8 98, .int .u8 99] 5 (3, 4))) #[.slice (some ⟨w.heap.size, 0, none⟩) 3 3] 23 1 1 rfl (by simp [maxLen]); simpa using this)
    ((rd_lit_f w #[.int .u8 97, .int .u8 98, .int .u8 99] 5 (3, 4) 3 [97, 98, 99] rfl rfl (by simp [maxLen])).below ((Below.refl _ _).alloc (Nat.le_refl _) _)) (by simp))
  have kc0 := fun (w : World) (C : Array Value) (n c : Nat) => Lib.run_convert_bytes_const (P := Try.prog) w 23 5 C n c Try.underlying23 Try.underlying5
  go_enter Try.func26, Try.ntmps26
  go_wp2_with fail
  refine h1.out.mono ?_
  rintro e w1 ⟨A1, c1, rfl, hs1, hb1⟩
  have kc := str_of hs1.rd
  rw [sumB_abc] at kc
  clear hs1
  go_wp2_with fail
  go_ret
  exact ⟨rfl, (((Below.refl _ _).alloc (Nat.le_refl _) _).alloc (by simp) _).trans (hb1.mono (by simp; omega))⟩

/-- What the hash and the whole message are, behind some parts. -/
structure PartsAt (w0 : World) (hb : Nat) (A Aall : Option Addr) (call : Nat) (hm flat : List UInt8) (wr : World) : Prop where
  live : Live wr hb A hm
  seg : Seg wr (hb + 1) 1 Aall flat.length call (bvs flat)
  apart : ∀ a b, A = some a → Aall = some b → a.block ≠ b.block
  below : Below w0.heap.size w0 wr
  base : w0.heap.size ≤ hb
namespace PartsAt
variable {w0 wr wn : World} {hb : Nat} {A A2 Aall : Option Addr} {call : Nat} {hm flat : List UInt8}
theorem wrote (h : PartsAt w0 hb A Aall call hm flat wr) {hm2 : List UInt8} (hl : Live wn hb A2 hm2) (ht : Touch (Own hb A) wr wn) (ha : ∀ a, A2 = some a → (∃ a0, A = some a0 ∧ a0.block = a.block) ∨ wr.heap.size ≤ a.block) : PartsAt w0 hb A2 Aall call hm2 flat wn := by
  refine ⟨hl, h.seg.touch ht (fun a e ho => ?_), fun a b e1 e2 e3 => ?_, h.below.trans (ht.below (fun j _ hj => ?_) h.below.size), h.base⟩
  · rcases ho with ho | ⟨a0, h0, h1⟩
    · have := h.seg.base_le a e; omega
    · exact h.apart a0 a h0 e h1
  · rcases ha a e1 with ⟨a0, h0, h1⟩ | h1
    · exact h.apart a0 b h0 e2 (h1.trans e3)
    · have := h.seg.lt b e2; omega
  · rcases hj with rfl | ⟨a, ha', rfl⟩
    · exact h.base
    · have := h.live.own a ha'; have := h.base; omega
theorem appended (h : PartsAt w0 hb A Aall call hm flat wr) {bs : List UInt8} {A' : Option Addr} {n' c' : Nat} (hn : n' = flat.length + bs.length) (hs : Seg wn (hb + 1) 1 A' n' c' (bvs flat ++ bvs bs)) (hg : wr.grownBy wn (Aall.map (·.block))) (hl : Lies wr Aall A') : PartsAt w0 hb A A' c' hm (flat ++ bs) wn := by
  have ht : Touch (fun i => Aall.map (·.block) = some i) wr wn := Touch.of_grown hg (fun r hr _ => hr)
  refine ⟨h.live.touch ht (fun e => ?_) (fun a ha e => ?_), ?_, fun a b e1 e2 e3 => ?_, ?_, h.base⟩
  · cases Aall with
    | none => cases e
    | some b => have := h.seg.base_le b rfl; simp at e; omega
  · cases Aall with
    | none => cases e
    | some b => simp at e; exact h.apart a b ha rfl e.symm
  · subst hn; rw [← bvs_append] at hs; rw [List.length_append]; exact hs
  · rcases hl b e2 with ⟨b0, h0, h1⟩ | h1
    · exact h.apart a b0 e1 h0 (e3.trans h1)
    · have := (h.live.own a e1).2; omega
  · refine h.below.grown hg h.below.size (fun k hk => ?_)
    cases Aall with
    | none => cases hk
    | some b => have := h.seg.base_le b rfl; simp at hk; subst hk; have := h.base; omega
theorem drop_ (h : PartsAt w0 hb A Aall call hm flat wr) (hb1 : Below wr.heap.size wr wn) : PartsAt w0 hb A Aall call hm flat wn :=
  ⟨h.live.below hb1, h.seg.below hb1, h.apart, h.below.trans (hb1.mono h.below.size), h.base⟩
end PartsAt
theorem Parts.len_take {bss : List (List UInt8)} (k m : Nat) (h : ∀ j, j < k → ∀ bs, bss[j]? = some bs → bs.length ≤ m) : (bss.take k).flatten.length ≤ k * m := by
  induction k with
  | zero => simp
  | succ k ih =>
    rw [List.take_add_one, List.flatten_append, List.length_append, Nat.succ_mul]
    have h1 := ih (fun j hj => h j (by omega))
    cases hk : bss[k]? with
    | none => simp only [Option.toList_none, List.flatten_nil, List.length_nil]; omega
    | some bs => have := h k (by omega) bs hk; simp only [Option.toList_some, List.flatten_cons, List.flatten_nil, List.append_nil]; omega

set_option maxRecDepth 100000 in
set_option maxHeartbeats 2000000 in
theorem ShaParts_ok (w : World) (Ap : Option Addr) (np cp : Nat) (vs : List Value) (bss : List (List UInt8)) (hp : Rd w 1 Ap np cp vs) (hps : Parts w vs bss) :
    Calls Try.prog 9 #[.slice Ap np cp] w (Tells w true) := by
  have HP := Lib.hid hp
  have HPS := Lib.hid hps
  have hnp : np < 9223372036854775808 := by have := hp.cap; have := hp.max; simp only [maxLen] at this; omega
  have HL : Hid (np = bss.length) := Lib.hid (by have := hp.len; have := hps.1; omega)
  clear hp hps
  go_enter Try.func9, Try.ntmps9
  go_wp2_with fail
  refine (anchor1 w).mono ?_
  rintro e w1 ⟨rfl, hb1⟩
  have HB1 := Lib.hid hb1
  clear hb1
  by_cases h30 : 30 < np
  · have h30' : (30 : Int) < np := by omega
    go_wp2_with fail
    go_ret
    exact ⟨rfl, HB1.out⟩
  have h30' : (np : Int) ≤ 30 := by omega
  go_wp2_with fail
  refine (new_any w1).mono ?_
  rintro e w2 ⟨rfl, hw2⟩
  have HPA0 : Hid (PartsAt w1 w1.heap.size none none 0 [] [] w2) := Lib.hid (by rw [hw2]; exact ⟨Live.new w1, Seg.nil _ _ _, fun _ _ h => (by cases h), (Below.refl _ _).alloc (Nat.le_refl _) _, Nat.le_refl _⟩)
  clear hw2
  go_wp2_with fail
  go_loopw [4, 15] (fun s4 s15 wr => ∃ (k : Nat) (Aall : Option Addr) (call : Nat) (A : Option Addr) (flat : List UInt8), k ≤ np ∧ s4 = .slice Aall flat.length call ∧ s15 = .int .i64 k ∧ Hid (flat = (bss.take k).flatten) ∧ (∀ j, j < k → ∀ bs, bss[j]? = some bs → bs.length ≤ 300) ∧ PartsAt w1 w1.heap.size A Aall call flat flat wr) (fun _ s15 _ => np - (intOf s15).toNat)
  case atStart => exact ⟨0, none, 0, none, [], by omega, rfl, rfl, Lib.hid (by simp), (fun j hj => by omega), HPA0.out⟩
  case round =>
    obtain ⟨k, Aall, call, A, flat, hk, rfl, rfl, HFL, hle, hpa⟩ := hrel
    have HPA := Lib.hid hpa
    have HLE := Lib.hid hle
    have hflen : flat.length ≤ k * 300 := by rw [HFL.out]; exact Parts.len_take k 300 hle
    clear hpa HPA0 hle
    have HBW := Lib.hid (HB1.out.trans (HPA.out.below.mono HB1.out.size))
    by_cases hlt : k < np
    · obtain ⟨b, o, rfl, hx⟩ := (HP.out.below HBW.out).at_ (by omega)
      have hvl : k < vs.length := by have := HP.out.len; omega
      have hbl : k < bss.length := by have := HL.out; omega
      obtain ⟨Ab, nb, cb, hv, hrb⟩ := HPS.out.2 k vs[k] bss[k] (List.getElem?_eq_getElem hvl) (List.getElem?_eq_getElem hbl)
      have hcell := hx k vs[k] (List.getElem?_eq_getElem hvl)
      rw [hv] at hcell
      have HRW := Lib.hid hrb
      have HRB := Lib.hid (hrb.below HBW.out)
      have hnb : nb < 9223372036854775808 := by have := hrb.cap; have := hrb.max; simp only [maxLen] at this; omega
      have hnl : nb = bss[k].length := by have := hrb.len; rw [bvs_length] at this; omega
      have HNL := Lib.hid hnl
      clear hx hrb hv hnl
      by_cases h300 : 300 < nb
      · have h300' : (300 : Int) < nb := by omega
        go_wp2_with fail
        go_ret
        exact ⟨rfl, HBW.out⟩
      · have h300' : (nb : Int) ≤ 300 := by omega
        have HLE2 : Hid (∀ j, j < k + 1 → ∀ bs, bss[j]? = some bs → bs.length ≤ 300) := Lib.hid (fun j hj bs hbs => by
          rcases Nat.lt_or_eq_of_le (Nat.le_of_lt_succ hj) with h | rfl
          · exact HLE.out j h bs hbs
          · rw [List.getElem?_eq_getElem hbl] at hbs; cases hbs; have := HNL.out; omega)
        obtain ⟨flat0, HF0⟩ : ∃ f, Hid (f = flat) := ⟨_, Lib.hid rfl⟩
        have HW := Lib.hid (write_live w1.heap.size A flat bss[k] Ab nb cb wr HPA.out.live HRB.out (fun h0 a ha e => by have := HRW.out.lt h0 (by decide) a ha; have := HB1.out.size; omega) (by have := HNL.out; omega))
        go_wp2_with (first | (refine HW.out.mono ?_; rintro e wm ⟨rfl, A2, hl2, ht2, ha2⟩; have HPM := Lib.hid (HPA.out.wrote hl2 ht2 ha2); have HRM := Lib.hid (HRW.out.below (HB1.out.trans (HPM.out.below.mono HB1.out.size))); clear hl2 ht2 ha2) | (at_builtin; refine wpList_append_at rfl _ _ _ _ rfl ei_u8 rfl HPM.out.seg rfl (HRM.out.src Try.underlying23 (bvs_one _)) (by simp only [maxLen]; omega) (by omega) (by have := HPM.out.live.lt; omega) ?_; intro A' c' wn hs hg hat; have HPN := Lib.hid (HPM.out.appended (by rw [HNL.out]) hs hg hat); clear hs hg hat))
        obtain ⟨flat2, HF2⟩ : ∃ f, Hid (f = flat ++ bss[k]) := ⟨_, Lib.hid rfl⟩
        have hl2 : flat.length + nb = flat2.length := by rw [HF2.out, List.length_append, ← HNL.out]
        have HFL2 : Hid (flat2 = (bss.take (k + 1)).flatten) := by rw [flatten_take_succ bss k _ (List.getElem?_eq_getElem hbl), HF2.out, HFL.out]; exact Lib.hid rfl
        have HLEN : Hid (flat2.length ≤ 1099511627776) := Lib.hid (by rw [← hl2]; omega)
        rw [← HF2.out] at HPN
        rw [hl2]
        clear HPM HPA HW HRM HRB HF0 HRW
        refine wp_region_held_drew (S := fun w' => Below wn.heap.size wn w') (by kernel_rfl) ((Below.refl _ _).drew) (fun hHeld => ?_)
        refine held_yes (i := 0) (v := ?_) rfl (by kernel_rfl) (by kernel_rfl) (by kernel_rfl) (fun _ _ _ h => h) (by rfl) (fun w hSw => ?_) hHeld ?_
        rotate_left
        · go_simp; try with_reducible rfl
        simp only [List.setIfInBounds_toArray, List.set_cons_zero, List.set_cons_succ]
        refine held_yes (i := 3) (v := ?_) rfl (by kernel_rfl) (by kernel_rfl) (by kernel_rfl) (fun _ _ _ h => h) (by rfl) (fun w hSw => ?_) hHeld ?_
        rotate_left
        · go_simp; try with_reducible rfl
        simp only [List.setIfInBounds_toArray, List.set_cons_zero, List.set_cons_succ]
        refine wpAnyH_ready (rs := [1, 4]) (by kernel_rfl) (by simp) (AllReadyH.cons rfl (fun K hK => ?_) (AllReadyH.cons rfl (fun K hK => ?_) AllReadyH.nil))
        · skip
          rw [if_pos (by rfl)]
          go_simp
          refine (hsum_live w1.heap.size A2 _ wn.drew (HPN.out.live.below ((Below.refl wn.heap.size wn).drew)) HLEN.out).mono ?_
          rintro e wq1 ⟨A1, c1, rfl, hs1, hb1⟩
          have HS1 := Lib.hid hs1
          have HBQ1 := Lib.hid hb1
          clear hs1 hb1
          go_wp2_with fail
          refine hK.out _ _ ((Below.refl wn.heap.size wn).drew.trans HBQ1.out) (fun _ => ?_)
          clear hK K
          try simp only [Act.put, List.setIfInBounds_toArray, List.set_cons_zero, List.set_cons_succ]
          refine wpAnyH_mono (S' := fun w' => Below wq1.heap.size wq1 w') (fun w' h => ((Below.refl wn.heap.size wn).drew.trans HBQ1.out).trans (h.mono (by have := HBQ1.out.size; first | exact this | simpa using this))) ?_
          have hHeld : Below wq1.heap.size wq1 wq1 := Below.refl _ _
          refine held_yes (i := 2) (v := ?_) rfl (by kernel_rfl) (by kernel_rfl) (by kernel_rfl) (fun _ _ _ h => h) (by rfl) (fun w hSw => ?_) hHeld ?_
          rotate_left
          · have kc := str_of (HS1.out.rd.below hSw); go_simp; try with_reducible rfl
          simp only [List.setIfInBounds_toArray, List.set_cons_zero, List.set_cons_succ]
          refine held_only (i := 4) (by kernel_rfl) rfl (fun K hK => ?_)
          rw [if_pos (by rfl)]
          go_wp2_with fail
          refine world_at (F := fun wx => Below wq1.heap.size wq1 wx ∧ Rd wx 1 (some ⟨wq1.heap.size, 0, none⟩) 1 1 [.slice A' flat2.length c']) ⟨(Below.refl _ _).alloc (Nat.le_refl _) _, rd_lit wq1 #[.slice A' flat2.length c'] _ 1 1 rfl (by simp [maxLen])⟩ (fun wq2 HF => ?_)
          have HBQ2 := Lib.hid HF.out.1
          have HR4 := Lib.hid HF.out.2
          clear HF
          refine hK.out _ _ HBQ2.out (fun _ => ?_)
          clear hK K
          try simp only [Act.put, List.setIfInBounds_toArray, List.set_cons_zero, List.set_cons_succ]
          refine wpAnyH_mono (S' := fun w' => Below wq2.heap.size wq2 w') (fun w' h => HBQ2.out.trans (h.mono (by have := HBQ2.out.size; first | exact this | simpa using this))) ?_
          have hHeld : Below wq2.heap.size wq2 wq2 := Below.refl _ _
          refine held_only (i := 5) (by kernel_rfl) rfl (fun K hK => ?_)
          rw [if_pos (by rfl)]
          go_simp
          refine (sum_one _ _ _ _ _ _ wq2 (HR4.out.below (Below.refl _ _)) (HPN.out.seg.rd.below ((((Below.refl wn.heap.size wn).drew).trans (HBQ1.out.mono ((Below.refl wn.heap.size wn).drew).size)).trans (HBQ2.out.mono (((Below.refl wn.heap.size wn).drew).trans (HBQ1.out.mono ((Below.refl wn.heap.size wn).drew).size)).size))) HLEN.out).mono ?_
          rintro e wq3 ⟨A5, c5, rfl, hs5, hb5⟩
          have HS5 := Lib.hid hs5
          have HBQ3 := Lib.hid hb5
          clear hs5 hb5
          go_wp2_with fail
          refine hK.out _ _ HBQ3.out (fun _ => ?_)
          clear hK K
          try simp only [Act.put, List.setIfInBounds_toArray, List.set_cons_zero, List.set_cons_succ]
          refine wpAnyH_mono (S' := fun w' => Below wq3.heap.size wq3 w') (fun w' h => HBQ3.out.trans (h.mono (by have := HBQ3.out.size; first | exact this | simpa using this))) ?_
          have hHeld : Below wq3.heap.size wq3 wq3 := Below.refl _ _
          refine held_yes (i := 6) (v := ?_) rfl (by kernel_rfl) (by kernel_rfl) (by kernel_rfl) (fun _ _ _ h => h) (by rfl) (fun w hSw => ?_) hHeld ?_
          rotate_left
          · have kc := str_of (HS5.out.rd.below hSw); go_simp; try with_reducible rfl
          simp only [List.setIfInBounds_toArray, List.set_cons_zero, List.set_cons_succ]
          refine held_yes (i := 7) (v := ?_) rfl (by kernel_rfl) (by kernel_rfl) (by kernel_rfl) (fun _ _ _ h => h) (by rfl) (fun w hSw => ?_) hHeld ?_
          rotate_left
          · go_simp; try with_reducible rfl
          simp only [List.setIfInBounds_toArray, List.set_cons_zero, List.set_cons_succ]
          refine wpAnyH_done (by kernel_rfl) ?_ _
          have HPB := Lib.hid (HPN.out.drop_ (((((Below.refl wn.heap.size wn).drew).trans (HBQ1.out.mono ((Below.refl wn.heap.size wn).drew).size)).trans (HBQ2.out.mono (((Below.refl wn.heap.size wn).drew).trans (HBQ1.out.mono ((Below.refl wn.heap.size wn).drew).size)).size)).trans (HBQ3.out.mono ((((Below.refl wn.heap.size wn).drew).trans (HBQ1.out.mono ((Below.refl wn.heap.size wn).drew).size)).trans (HBQ2.out.mono (((Below.refl wn.heap.size wn).drew).trans (HBQ1.out.mono ((Below.refl wn.heap.size wn).drew).size)).size)).size)))
          clear hHeld
          go_wp2_with fail
          case roundEnd =>
            exact ⟨⟨k + 1, A', c', A2, flat2, by omega, rfl, by push_cast; rfl, HFL2, HLE2.out, HPB.out⟩, by simp [intOf]; omega⟩
        · skip
          rw [if_pos (by rfl)]
          go_wp2_with fail
          refine world_at (F := fun wx => Below wn.drew.heap.size wn.drew wx ∧ Rd wx 1 (some ⟨wn.drew.heap.size, 0, none⟩) 1 1 [.slice A' flat2.length c']) ⟨(Below.refl _ _).alloc (Nat.le_refl _) _, rd_lit wn.drew #[.slice A' flat2.length c'] _ 1 1 rfl (by simp [maxLen])⟩ (fun wq4 HF => ?_)
          have HBQ4 := Lib.hid HF.out.1
          have HR4 := Lib.hid HF.out.2
          clear HF
          refine hK.out _ _ ((Below.refl wn.heap.size wn).drew.trans HBQ4.out) (fun _ => ?_)
          clear hK K
          try simp only [Act.put, List.setIfInBounds_toArray, List.set_cons_zero, List.set_cons_succ]
          refine wpAnyH_mono (S' := fun w' => Below wq4.heap.size wq4 w') (fun w' h => ((Below.refl wn.heap.size wn).drew.trans HBQ4.out).trans (h.mono (by have := HBQ4.out.size; first | exact this | simpa using this))) ?_
          have hHeld : Below wq4.heap.size wq4 wq4 := Below.refl _ _
          refine held_only (i := 1) (by kernel_rfl) rfl (fun K hK => ?_)
          rw [if_pos (by rfl)]
          go_simp
          refine (hsum_live w1.heap.size A2 _ wq4 (HPN.out.live.below (((Below.refl wn.heap.size wn).drew).trans (HBQ4.out.mono ((Below.refl wn.heap.size wn).drew).size))) HLEN.out).mono ?_
          rintro e wq5 ⟨A1, c1, rfl, hs1, hb1⟩
          have HS1 := Lib.hid hs1
          have HBQ5 := Lib.hid hb1
          clear hs1 hb1
          go_wp2_with fail
          refine hK.out _ _ HBQ5.out (fun _ => ?_)
          clear hK K
          try simp only [Act.put, List.setIfInBounds_toArray, List.set_cons_zero, List.set_cons_succ]
          refine wpAnyH_mono (S' := fun w' => Below wq5.heap.size wq5 w') (fun w' h => HBQ5.out.trans (h.mono (by have := HBQ5.out.size; first | exact this | simpa using this))) ?_
          have hHeld : Below wq5.heap.size wq5 wq5 := Below.refl _ _
          refine held_yes (i := 2) (v := ?_) rfl (by kernel_rfl) (by kernel_rfl) (by kernel_rfl) (fun _ _ _ h => h) (by rfl) (fun w hSw => ?_) hHeld ?_
          rotate_left
          · have kc := str_of (HS1.out.rd.below hSw); go_simp; try with_reducible rfl
          simp only [List.setIfInBounds_toArray, List.set_cons_zero, List.set_cons_succ]
          refine held_only (i := 5) (by kernel_rfl) rfl (fun K hK => ?_)
          rw [if_pos (by rfl)]
          go_simp
          refine (sum_one _ _ _ _ _ _ wq5 (HR4.out.below HBQ5.out) (HPN.out.seg.rd.below ((((Below.refl wn.heap.size wn).drew).trans (HBQ4.out.mono ((Below.refl wn.heap.size wn).drew).size)).trans (HBQ5.out.mono (((Below.refl wn.heap.size wn).drew).trans (HBQ4.out.mono ((Below.refl wn.heap.size wn).drew).size)).size))) HLEN.out).mono ?_
          rintro e wq6 ⟨A5, c5, rfl, hs5, hb5⟩
          have HS5 := Lib.hid hs5
          have HBQ6 := Lib.hid hb5
          clear hs5 hb5
          go_wp2_with fail
          refine hK.out _ _ HBQ6.out (fun _ => ?_)
          clear hK K
          try simp only [Act.put, List.setIfInBounds_toArray, List.set_cons_zero, List.set_cons_succ]
          refine wpAnyH_mono (S' := fun w' => Below wq6.heap.size wq6 w') (fun w' h => HBQ6.out.trans (h.mono (by have := HBQ6.out.size; first | exact this | simpa using this))) ?_
          have hHeld : Below wq6.heap.size wq6 wq6 := Below.refl _ _
          refine held_yes (i := 6) (v := ?_) rfl (by kernel_rfl) (by kernel_rfl) (by kernel_rfl) (fun _ _ _ h => h) (by rfl) (fun w hSw => ?_) hHeld ?_
          rotate_left
          · have kc := str_of (HS5.out.rd.below hSw); go_simp; try with_reducible rfl
          simp only [List.setIfInBounds_toArray, List.set_cons_zero, List.set_cons_succ]
          refine held_yes (i := 7) (v := ?_) rfl (by kernel_rfl) (by kernel_rfl) (by kernel_rfl) (fun _ _ _ h => h) (by rfl) (fun w hSw => ?_) hHeld ?_
          rotate_left
          · go_simp; try with_reducible rfl
          simp only [List.setIfInBounds_toArray, List.set_cons_zero, List.set_cons_succ]
          refine wpAnyH_done (by kernel_rfl) ?_ _
          have HPB := Lib.hid (HPN.out.drop_ (((((Below.refl wn.heap.size wn).drew).trans (HBQ4.out.mono ((Below.refl wn.heap.size wn).drew).size)).trans (HBQ5.out.mono (((Below.refl wn.heap.size wn).drew).trans (HBQ4.out.mono ((Below.refl wn.heap.size wn).drew).size)).size)).trans (HBQ6.out.mono ((((Below.refl wn.heap.size wn).drew).trans (HBQ4.out.mono ((Below.refl wn.heap.size wn).drew).size)).trans (HBQ5.out.mono (((Below.refl wn.heap.size wn).drew).trans (HBQ4.out.mono ((Below.refl wn.heap.size wn).drew).size)).size)).size)))
          clear hHeld
          go_wp2_with fail
          case roundEnd =>
            exact ⟨⟨k + 1, A', c', A2, flat2, by omega, rfl, by push_cast; rfl, HFL2, HLE2.out, HPB.out⟩, by simp [intOf]; omega⟩
    · obtain rfl : k = np := by omega
      have HLEN : Hid (flat.length ≤ 1099511627776) := Lib.hid (by omega)
      have HFL3 : Hid (flat = bss.flatten) := by rw [HFL.out, HL.out, List.take_length]; exact Lib.hid rfl
      have HLEN2 : Hid (bss.flatten.length ≤ 1099511627776) := by rw [← HFL3.out]; exact HLEN
      have HBS : Hid (w.heap.size ≤ wr.heap.size) := Lib.hid HBW.out.size
      go_wp2_with fail
      refine wp_region_held_drew (S := fun w' => Below wr.heap.size wr w') (by kernel_rfl) ((Below.refl _ _).drew) (fun hHeld => ?_)
      refine held_yes (i := 0) (v := ?_) rfl (by kernel_rfl) (by kernel_rfl) (by kernel_rfl) (fun _ _ _ h => h) (by rfl) (fun w hSw => ?_) hHeld ?_
      rotate_left
      · go_simp; try with_reducible rfl
      simp only [List.setIfInBounds_toArray, List.set_cons_zero, List.set_cons_succ]
      refine held_yes (i := 3) (v := ?_) rfl (by kernel_rfl) (by kernel_rfl) (by kernel_rfl) (fun _ _ _ h => h) (by rfl) (fun w hSw => ?_) hHeld ?_
      rotate_left
      · go_simp; try with_reducible rfl
      simp only [List.setIfInBounds_toArray, List.set_cons_zero, List.set_cons_succ]
      refine wpAnyH_ready (rs := [1, 4]) (by kernel_rfl) (by simp) (AllReadyH.cons rfl (fun K hK => ?_) (AllReadyH.cons rfl (fun K hK => ?_) AllReadyH.nil))
      · skip
        rw [if_pos (by rfl)]
        go_simp
        refine (sum_any _ _ _ _ _ wr.drew (HP.out.below ((HB1.out.trans (HPA.out.below.mono HB1.out.size)).trans (((Below.refl wr.heap.size wr).drew).mono HBS.out))) (HPS.out.below ((HB1.out.trans (HPA.out.below.mono HB1.out.size)).trans (((Below.refl wr.heap.size wr).drew).mono HBS.out))) HLEN2.out).mono ?_
        rintro e wq1 ⟨A1, c1, rfl, hs1, hb1⟩
        rw [← HFL3.out] at hs1
        have HS1 := Lib.hid hs1
        have HBQ1 := Lib.hid hb1
        clear hs1 hb1
        go_wp2_with fail
        refine hK.out _ _ ((Below.refl wr.heap.size wr).drew.trans HBQ1.out) (fun _ => ?_)
        clear hK K
        try simp only [Act.put, List.setIfInBounds_toArray, List.set_cons_zero, List.set_cons_succ]
        refine wpAnyH_mono (S' := fun w' => Below wq1.heap.size wq1 w') (fun w' h => ((Below.refl wr.heap.size wr).drew.trans HBQ1.out).trans (h.mono (by have := HBQ1.out.size; first | exact this | simpa using this))) ?_
        have hHeld : Below wq1.heap.size wq1 wq1 := Below.refl _ _
        refine held_yes (i := 2) (v := ?_) rfl (by kernel_rfl) (by kernel_rfl) (by kernel_rfl) (fun _ _ _ h => h) (by rfl) (fun w hSw => ?_) hHeld ?_
        rotate_left
        · have kc := str_of (HS1.out.rd.below hSw); go_simp; try with_reducible rfl
        simp only [List.setIfInBounds_toArray, List.set_cons_zero, List.set_cons_succ]
        refine held_only (i := 4) (by kernel_rfl) rfl (fun K hK => ?_)
        rw [if_pos (by rfl)]
        go_wp2_with fail
        refine world_at (F := fun wx => Below wq1.heap.size wq1 wx ∧ Rd wx 1 (some ⟨wq1.heap.size, 0, none⟩) 1 1 [.slice Aall flat.length call]) ⟨(Below.refl _ _).alloc (Nat.le_refl _) _, rd_lit wq1 #[.slice Aall flat.length call] _ 1 1 rfl (by simp [maxLen])⟩ (fun wq2 HF => ?_)
        have HBQ2 := Lib.hid HF.out.1
        have HR4 := Lib.hid HF.out.2
        clear HF
        refine hK.out _ _ HBQ2.out (fun _ => ?_)
        clear hK K
        try simp only [Act.put, List.setIfInBounds_toArray, List.set_cons_zero, List.set_cons_succ]
        refine wpAnyH_mono (S' := fun w' => Below wq2.heap.size wq2 w') (fun w' h => HBQ2.out.trans (h.mono (by have := HBQ2.out.size; first | exact this | simpa using this))) ?_
        have hHeld : Below wq2.heap.size wq2 wq2 := Below.refl _ _
        refine held_only (i := 5) (by kernel_rfl) rfl (fun K hK => ?_)
        rw [if_pos (by rfl)]
        go_simp
        refine (sum_one _ _ _ _ _ _ wq2 (HR4.out.below (Below.refl _ _)) (HPA.out.seg.rd.below ((((Below.refl wr.heap.size wr).drew).trans (HBQ1.out.mono ((Below.refl wr.heap.size wr).drew).size)).trans (HBQ2.out.mono (((Below.refl wr.heap.size wr).drew).trans (HBQ1.out.mono ((Below.refl wr.heap.size wr).drew).size)).size))) HLEN.out).mono ?_
        rintro e wq3 ⟨A5, c5, rfl, hs5, hb5⟩
        have HS5 := Lib.hid hs5
        have HBQ3 := Lib.hid hb5
        clear hs5 hb5
        go_wp2_with fail
        refine hK.out _ _ HBQ3.out (fun _ => ?_)
        clear hK K
        try simp only [Act.put, List.setIfInBounds_toArray, List.set_cons_zero, List.set_cons_succ]
        refine wpAnyH_mono (S' := fun w' => Below wq3.heap.size wq3 w') (fun w' h => HBQ3.out.trans (h.mono (by have := HBQ3.out.size; first | exact this | simpa using this))) ?_
        have hHeld : Below wq3.heap.size wq3 wq3 := Below.refl _ _
        refine held_yes (i := 6) (v := ?_) rfl (by kernel_rfl) (by kernel_rfl) (by kernel_rfl) (fun _ _ _ h => h) (by rfl) (fun w hSw => ?_) hHeld ?_
        rotate_left
        · have kc := str_of (HS5.out.rd.below hSw); go_simp; try with_reducible rfl
        simp only [List.setIfInBounds_toArray, List.set_cons_zero, List.set_cons_succ]
        refine held_yes (i := 7) (v := ?_) rfl (by kernel_rfl) (by kernel_rfl) (by kernel_rfl) (fun _ _ _ h => h) (by rfl) (fun w hSw => ?_) hHeld ?_
        rotate_left
        · go_simp; try with_reducible rfl
        simp only [List.setIfInBounds_toArray, List.set_cons_zero, List.set_cons_succ]
        refine held_yes (i := 8) (v := ?_) rfl (by kernel_rfl) (by kernel_rfl) (by kernel_rfl) (fun _ _ _ h => h) (by rfl) (fun w hSw => ?_) hHeld ?_
        rotate_left
        · go_simp; try with_reducible rfl
        simp only [List.setIfInBounds_toArray, List.set_cons_zero, List.set_cons_succ]
        refine held_yes (i := 9) (v := ?_) rfl (by kernel_rfl) (by kernel_rfl) (by kernel_rfl) (fun _ _ _ h => h) (by rfl) (fun w hSw => ?_) hHeld ?_
        rotate_left
        · go_simp; try with_reducible rfl
        simp only [List.setIfInBounds_toArray, List.set_cons_zero, List.set_cons_succ]
        refine held_yes (i := 12) (v := ?_) rfl (by kernel_rfl) (by kernel_rfl) (by kernel_rfl) (fun _ _ _ h => h) (by rfl) (fun w hSw => ?_) hHeld ?_
        rotate_left
        · go_simp; try with_reducible rfl
        simp only [List.setIfInBounds_toArray, List.set_cons_zero, List.set_cons_succ]
        refine wpAnyH_ready (rs := [10, 13]) (by kernel_rfl) (by simp) (AllReadyH.cons rfl (fun K hK => ?_) (AllReadyH.cons rfl (fun K hK => ?_) AllReadyH.nil))
        · skip
          rw [if_pos (by rfl)]
          go_simp
          refine (hsum_live w1.heap.size A _ wq3 (HPA.out.live.below (((((Below.refl wr.heap.size wr).drew).trans (HBQ1.out.mono ((Below.refl wr.heap.size wr).drew).size)).trans (HBQ2.out.mono (((Below.refl wr.heap.size wr).drew).trans (HBQ1.out.mono ((Below.refl wr.heap.size wr).drew).size)).size)).trans (HBQ3.out.mono ((((Below.refl wr.heap.size wr).drew).trans (HBQ1.out.mono ((Below.refl wr.heap.size wr).drew).size)).trans (HBQ2.out.mono (((Below.refl wr.heap.size wr).drew).trans (HBQ1.out.mono ((Below.refl wr.heap.size wr).drew).size)).size)).size))) HLEN.out).mono ?_
          rintro e wq4 ⟨A10, c10, rfl, hs10, hb10⟩
          have HS10 := Lib.hid hs10
          have HBQ4 := Lib.hid hb10
          clear hs10 hb10
          go_wp2_with fail
          refine hK.out _ _ HBQ4.out (fun _ => ?_)
          clear hK K
          try simp only [Act.put, List.setIfInBounds_toArray, List.set_cons_zero, List.set_cons_succ]
          refine wpAnyH_mono (S' := fun w' => Below wq4.heap.size wq4 w') (fun w' h => HBQ4.out.trans (h.mono (by have := HBQ4.out.size; first | exact this | simpa using this))) ?_
          have hHeld : Below wq4.heap.size wq4 wq4 := Below.refl _ _
          refine held_yes (i := 11) (v := ?_) rfl (by kernel_rfl) (by kernel_rfl) (by kernel_rfl) (fun _ _ _ h => h) (by rfl) (fun w hSw => ?_) hHeld ?_
          rotate_left
          · have kc := str_of (HS10.out.rd.below hSw); go_simp; try with_reducible rfl
          simp only [List.setIfInBounds_toArray, List.set_cons_zero, List.set_cons_succ]
          refine held_only (i := 13) (by kernel_rfl) rfl (fun K hK => ?_)
          rw [if_pos (by rfl)]
          go_wp2_with fail
          refine world_at (F := fun wx => Below wq4.heap.size wq4 wx ∧ Rd wx 1 (some ⟨wq4.heap.size, 0, none⟩) 1 1 [.slice Aall flat.length call]) ⟨(Below.refl _ _).alloc (Nat.le_refl _) _, rd_lit wq4 #[.slice Aall flat.length call] _ 1 1 rfl (by simp [maxLen])⟩ (fun wq5 HF => ?_)
          have HBQ5 := Lib.hid HF.out.1
          have HR13 := Lib.hid HF.out.2
          clear HF
          refine hK.out _ _ HBQ5.out (fun _ => ?_)
          clear hK K
          try simp only [Act.put, List.setIfInBounds_toArray, List.set_cons_zero, List.set_cons_succ]
          refine wpAnyH_mono (S' := fun w' => Below wq5.heap.size wq5 w') (fun w' h => HBQ5.out.trans (h.mono (by have := HBQ5.out.size; first | exact this | simpa using this))) ?_
          have hHeld : Below wq5.heap.size wq5 wq5 := Below.refl _ _
          refine held_only (i := 14) (by kernel_rfl) rfl (fun K hK => ?_)
          rw [if_pos (by rfl)]
          go_simp
          refine (sum_one _ _ _ _ _ _ wq5 (HR13.out.below (Below.refl _ _)) (HPA.out.seg.rd.below (((((((Below.refl wr.heap.size wr).drew).trans (HBQ1.out.mono ((Below.refl wr.heap.size wr).drew).size)).trans (HBQ2.out.mono (((Below.refl wr.heap.size wr).drew).trans (HBQ1.out.mono ((Below.refl wr.heap.size wr).drew).size)).size)).trans (HBQ3.out.mono ((((Below.refl wr.heap.size wr).drew).trans (HBQ1.out.mono ((Below.refl wr.heap.size wr).drew).size)).trans (HBQ2.out.mono (((Below.refl wr.heap.size wr).drew).trans (HBQ1.out.mono ((Below.refl wr.heap.size wr).drew).size)).size)).size)).trans (HBQ4.out.mono (((((Below.refl wr.heap.size wr).drew).trans (HBQ1.out.mono ((Below.refl wr.heap.size wr).drew).size)).trans (HBQ2.out.mono (((Below.refl wr.heap.size wr).drew).trans (HBQ1.out.mono ((Below.refl wr.heap.size wr).drew).size)).size)).trans (HBQ3.out.mono ((((Below.refl wr.heap.size wr).drew).trans (HBQ1.out.mono ((Below.refl wr.heap.size wr).drew).size)).trans (HBQ2.out.mono (((Below.refl wr.heap.size wr).drew).trans (HBQ1.out.mono ((Below.refl wr.heap.size wr).drew).size)).size)).size)).size)).trans (HBQ5.out.mono ((((((Below.refl wr.heap.size wr).drew).trans (HBQ1.out.mono ((Below.refl wr.heap.size wr).drew).size)).trans (HBQ2.out.mono (((Below.refl wr.heap.size wr).drew).trans (HBQ1.out.mono ((Below.refl wr.heap.size wr).drew).size)).size)).trans (HBQ3.out.mono ((((Below.refl wr.heap.size wr).drew).trans (HBQ1.out.mono ((Below.refl wr.heap.size wr).drew).size)).trans (HBQ2.out.mono (((Below.refl wr.heap.size wr).drew).trans (HBQ1.out.mono ((Below.refl wr.heap.size wr).drew).size)).size)).size)).trans (HBQ4.out.mono (((((Below.refl wr.heap.size wr).drew).trans (HBQ1.out.mono ((Below.refl wr.heap.size wr).drew).size)).trans (HBQ2.out.mono (((Below.refl wr.heap.size wr).drew).trans (HBQ1.out.mono ((Below.refl wr.heap.size wr).drew).size)).size)).trans (HBQ3.out.mono ((((Below.refl wr.heap.size wr).drew).trans (HBQ1.out.mono ((Below.refl wr.heap.size wr).drew).size)).trans (HBQ2.out.mono (((Below.refl wr.heap.size wr).drew).trans (HBQ1.out.mono ((Below.refl wr.heap.size wr).drew).size)).size)).size)).size)).size))) HLEN.out).mono ?_
          rintro e wq6 ⟨A14, c14, rfl, hs14, hb14⟩
          have HS14 := Lib.hid hs14
          have HBQ6 := Lib.hid hb14
          clear hs14 hb14
          go_wp2_with fail
          refine hK.out _ _ HBQ6.out (fun _ => ?_)
          clear hK K
          try simp only [Act.put, List.setIfInBounds_toArray, List.set_cons_zero, List.set_cons_succ]
          refine wpAnyH_mono (S' := fun w' => Below wq6.heap.size wq6 w') (fun w' h => HBQ6.out.trans (h.mono (by have := HBQ6.out.size; first | exact this | simpa using this))) ?_
          have hHeld : Below wq6.heap.size wq6 wq6 := Below.refl _ _
          refine held_yes (i := 15) (v := ?_) rfl (by kernel_rfl) (by kernel_rfl) (by kernel_rfl) (fun _ _ _ h => h) (by rfl) (fun w hSw => ?_) hHeld ?_
          rotate_left
          · have kc := str_of (HS14.out.rd.below hSw); go_simp; try with_reducible rfl
          simp only [List.setIfInBounds_toArray, List.set_cons_zero, List.set_cons_succ]
          refine held_yes (i := 16) (v := ?_) rfl (by kernel_rfl) (by kernel_rfl) (by kernel_rfl) (fun _ _ _ h => h) (by rfl) (fun w hSw => ?_) hHeld ?_
          rotate_left
          · go_simp; try with_reducible rfl
          simp only [List.setIfInBounds_toArray, List.set_cons_zero, List.set_cons_succ]
          refine held_yes (i := 17) (v := ?_) rfl (by kernel_rfl) (by kernel_rfl) (by kernel_rfl) (fun _ _ _ h => h) (by rfl) (fun w hSw => ?_) hHeld ?_
          rotate_left
          · go_simp; try with_reducible rfl
          simp only [List.setIfInBounds_toArray, List.set_cons_zero, List.set_cons_succ]
          refine held_yes (i := 18) (v := ?_) rfl (by kernel_rfl) (by kernel_rfl) (by kernel_rfl) (fun _ _ _ h => h) (by rfl) (fun w hSw => ?_) hHeld ?_
          rotate_left
          · go_simp; try with_reducible rfl
          simp only [List.setIfInBounds_toArray, List.set_cons_zero, List.set_cons_succ]
          refine wpAnyH_done (by kernel_rfl) ?_ _
          go_wp2_with fail
          go_ret
          exact ⟨rfl, (HB1.out.trans (HPA.out.below.mono HB1.out.size)).trans (((((((((Below.refl wr.heap.size wr).drew).trans (HBQ1.out.mono ((Below.refl wr.heap.size wr).drew).size)).trans (HBQ2.out.mono (((Below.refl wr.heap.size wr).drew).trans (HBQ1.out.mono ((Below.refl wr.heap.size wr).drew).size)).size)).trans (HBQ3.out.mono ((((Below.refl wr.heap.size wr).drew).trans (HBQ1.out.mono ((Below.refl wr.heap.size wr).drew).size)).trans (HBQ2.out.mono (((Below.refl wr.heap.size wr).drew).trans (HBQ1.out.mono ((Below.refl wr.heap.size wr).drew).size)).size)).size)).trans (HBQ4.out.mono (((((Below.refl wr.heap.size wr).drew).trans (HBQ1.out.mono ((Below.refl wr.heap.size wr).drew).size)).trans (HBQ2.out.mono (((Below.refl wr.heap.size wr).drew).trans (HBQ1.out.mono ((Below.refl wr.heap.size wr).drew).size)).size)).trans (HBQ3.out.mono ((((Below.refl wr.heap.size wr).drew).trans (HBQ1.out.mono ((Below.refl wr.heap.size wr).drew).size)).trans (HBQ2.out.mono (((Below.refl wr.heap.size wr).drew).trans (HBQ1.out.mono ((Below.refl wr.heap.size wr).drew).size)).size)).size)).size)).trans (HBQ5.out.mono ((((((Below.refl wr.heap.size wr).drew).trans (HBQ1.out.mono ((Below.refl wr.heap.size wr).drew).size)).trans (HBQ2.out.mono (((Below.refl wr.heap.size wr).drew).trans (HBQ1.out.mono ((Below.refl wr.heap.size wr).drew).size)).size)).trans (HBQ3.out.mono ((((Below.refl wr.heap.size wr).drew).trans (HBQ1.out.mono ((Below.refl wr.heap.size wr).drew).size)).trans (HBQ2.out.mono (((Below.refl wr.heap.size wr).drew).trans (HBQ1.out.mono ((Below.refl wr.heap.size wr).drew).size)).size)).size)).trans (HBQ4.out.mono (((((Below.refl wr.heap.size wr).drew).trans (HBQ1.out.mono ((Below.refl wr.heap.size wr).drew).size)).trans (HBQ2.out.mono (((Below.refl wr.heap.size wr).drew).trans (HBQ1.out.mono ((Below.refl wr.heap.size wr).drew).size)).size)).trans (HBQ3.out.mono ((((Below.refl wr.heap.size wr).drew).trans (HBQ1.out.mono ((Below.refl wr.heap.size wr).drew).size)).trans (HBQ2.out.mono (((Below.refl wr.heap.size wr).drew).trans (HBQ1.out.mono ((Below.refl wr.heap.size wr).drew).size)).size)).size)).size)).size)).trans (HBQ6.out.mono (((((((Below.refl wr.heap.size wr).drew).trans (HBQ1.out.mono ((Below.refl wr.heap.size wr).drew).size)).trans (HBQ2.out.mono (((Below.refl wr.heap.size wr).drew).trans (HBQ1.out.mono ((Below.refl wr.heap.size wr).drew).size)).size)).trans (HBQ3.out.mono ((((Below.refl wr.heap.size wr).drew).trans (HBQ1.out.mono ((Below.refl wr.heap.size wr).drew).size)).trans (HBQ2.out.mono (((Below.refl wr.heap.size wr).drew).trans (HBQ1.out.mono ((Below.refl wr.heap.size wr).drew).size)).size)).size)).trans (HBQ4.out.mono (((((Below.refl wr.heap.size wr).drew).trans (HBQ1.out.mono ((Below.refl wr.heap.size wr).drew).size)).trans (HBQ2.out.mono (((Below.refl wr.heap.size wr).drew).trans (HBQ1.out.mono ((Below.refl wr.heap.size wr).drew).size)).size)).trans (HBQ3.out.mono ((((Below.refl wr.heap.size wr).drew).trans (HBQ1.out.mono ((Below.refl wr.heap.size wr).drew).size)).trans (HBQ2.out.mono (((Below.refl wr.heap.size wr).drew).trans (HBQ1.out.mono ((Below.refl wr.heap.size wr).drew).size)).size)).size)).size)).trans (HBQ5.out.mono ((((((Below.refl wr.heap.size wr).drew).trans (HBQ1.out.mono ((Below.refl wr.heap.size wr).drew).size)).trans (HBQ2.out.mono (((Below.refl wr.heap.size wr).drew).trans (HBQ1.out.mono ((Below.refl wr.heap.size wr).drew).size)).size)).trans (HBQ3.out.mono ((((Below.refl wr.heap.size wr).drew).trans (HBQ1.out.mono ((Below.refl wr.heap.size wr).drew).size)).trans (HBQ2.out.mono (((Below.refl wr.heap.size wr).drew).trans (HBQ1.out.mono ((Below.refl wr.heap.size wr).drew).size)).size)).size)).trans (HBQ4.out.mono (((((Below.refl wr.heap.size wr).drew).trans (HBQ1.out.mono ((Below.refl wr.heap.size wr).drew).size)).trans (HBQ2.out.mono (((Below.refl wr.heap.size wr).drew).trans (HBQ1.out.mono ((Below.refl wr.heap.size wr).drew).size)).size)).trans (HBQ3.out.mono ((((Below.refl wr.heap.size wr).drew).trans (HBQ1.out.mono ((Below.refl wr.heap.size wr).drew).size)).trans (HBQ2.out.mono (((Below.refl wr.heap.size wr).drew).trans (HBQ1.out.mono ((Below.refl wr.heap.size wr).drew).size)).size)).size)).size)).size)).size)).mono HBS.out)⟩
        · skip
          rw [if_pos (by rfl)]
          go_wp2_with fail
          refine world_at (F := fun wx => Below wq3.heap.size wq3 wx ∧ Rd wx 1 (some ⟨wq3.heap.size, 0, none⟩) 1 1 [.slice Aall flat.length call]) ⟨(Below.refl _ _).alloc (Nat.le_refl _) _, rd_lit wq3 #[.slice Aall flat.length call] _ 1 1 rfl (by simp [maxLen])⟩ (fun wq7 HF => ?_)
          have HBQ7 := Lib.hid HF.out.1
          have HR13 := Lib.hid HF.out.2
          clear HF
          refine hK.out _ _ HBQ7.out (fun _ => ?_)
          clear hK K
          try simp only [Act.put, List.setIfInBounds_toArray, List.set_cons_zero, List.set_cons_succ]
          refine wpAnyH_mono (S' := fun w' => Below wq7.heap.size wq7 w') (fun w' h => HBQ7.out.trans (h.mono (by have := HBQ7.out.size; first | exact this | simpa using this))) ?_
          have hHeld : Below wq7.heap.size wq7 wq7 := Below.refl _ _
          refine held_only (i := 10) (by kernel_rfl) rfl (fun K hK => ?_)
          rw [if_pos (by rfl)]
          go_simp
          refine (hsum_live w1.heap.size A _ wq7 (HPA.out.live.below ((((((Below.refl wr.heap.size wr).drew).trans (HBQ1.out.mono ((Below.refl wr.heap.size wr).drew).size)).trans (HBQ2.out.mono (((Below.refl wr.heap.size wr).drew).trans (HBQ1.out.mono ((Below.refl wr.heap.size wr).drew).size)).size)).trans (HBQ3.out.mono ((((Below.refl wr.heap.size wr).drew).trans (HBQ1.out.mono ((Below.refl wr.heap.size wr).drew).size)).trans (HBQ2.out.mono (((Below.refl wr.heap.size wr).drew).trans (HBQ1.out.mono ((Below.refl wr.heap.size wr).drew).size)).size)).size)).trans (HBQ7.out.mono (((((Below.refl wr.heap.size wr).drew).trans (HBQ1.out.mono ((Below.refl wr.heap.size wr).drew).size)).trans (HBQ2.out.mono (((Below.refl wr.heap.size wr).drew).trans (HBQ1.out.mono ((Below.refl wr.heap.size wr).drew).size)).size)).trans (HBQ3.out.mono ((((Below.refl wr.heap.size wr).drew).trans (HBQ1.out.mono ((Below.refl wr.heap.size wr).drew).size)).trans (HBQ2.out.mono (((Below.refl wr.heap.size wr).drew).trans (HBQ1.out.mono ((Below.refl wr.heap.size wr).drew).size)).size)).size)).size))) HLEN.out).mono ?_
          rintro e wq8 ⟨A10, c10, rfl, hs10, hb10⟩
          have HS10 := Lib.hid hs10
          have HBQ8 := Lib.hid hb10
          clear hs10 hb10
          go_wp2_with fail
          refine hK.out _ _ HBQ8.out (fun _ => ?_)
          clear hK K
          try simp only [Act.put, List.setIfInBounds_toArray, List.set_cons_zero, List.set_cons_succ]
          refine wpAnyH_mono (S' := fun w' => Below wq8.heap.size wq8 w') (fun w' h => HBQ8.out.trans (h.mono (by have := HBQ8.out.size; first | exact this | simpa using this))) ?_
          have hHeld : Below wq8.heap.size wq8 wq8 := Below.refl _ _
          refine held_yes (i := 11) (v := ?_) rfl (by kernel_rfl) (by kernel_rfl) (by kernel_rfl) (fun _ _ _ h => h) (by rfl) (fun w hSw => ?_) hHeld ?_
          rotate_left
          · have kc := str_of (HS10.out.rd.below hSw); go_simp; try with_reducible rfl
          simp only [List.setIfInBounds_toArray, List.set_cons_zero, List.set_cons_succ]
          refine held_only (i := 14) (by kernel_rfl) rfl (fun K hK => ?_)
          rw [if_pos (by rfl)]
          go_simp
          refine (sum_one _ _ _ _ _ _ wq8 (HR13.out.below HBQ8.out) (HPA.out.seg.rd.below (((((((Below.refl wr.heap.size wr).drew).trans (HBQ1.out.mono ((Below.refl wr.heap.size wr).drew).size)).trans (HBQ2.out.mono (((Below.refl wr.heap.size wr).drew).trans (HBQ1.out.mono ((Below.refl wr.heap.size wr).drew).size)).size)).trans (HBQ3.out.mono ((((Below.refl wr.heap.size wr).drew).trans (HBQ1.out.mono ((Below.refl wr.heap.size wr).drew).size)).trans (HBQ2.out.mono (((Below.refl wr.heap.size wr).drew).trans (HBQ1.out.mono ((Below.refl wr.heap.size wr).drew).size)).size)).size)).trans (HBQ7.out.mono (((((Below.refl wr.heap.size wr).drew).trans (HBQ1.out.mono ((Below.refl wr.heap.size wr).drew).size)).trans (HBQ2.out.mono (((Below.refl wr.heap.size wr).drew).trans (HBQ1.out.mono ((Below.refl wr.heap.size wr).drew).size)).size)).trans (HBQ3.out.mono ((((Below.refl wr.heap.size wr).drew).trans (HBQ1.out.mono ((Below.refl wr.heap.size wr).drew).size)).trans (HBQ2.out.mono (((Below.refl wr.heap.size wr).drew).trans (HBQ1.out.mono ((Below.refl wr.heap.size wr).drew).size)).size)).size)).size)).trans (HBQ8.out.mono ((((((Below.refl wr.heap.size wr).drew).trans (HBQ1.out.mono ((Below.refl wr.heap.size wr).drew).size)).trans (HBQ2.out.mono (((Below.refl wr.heap.size wr).drew).trans (HBQ1.out.mono ((Below.refl wr.heap.size wr).drew).size)).size)).trans (HBQ3.out.mono ((((Below.refl wr.heap.size wr).drew).trans (HBQ1.out.mono ((Below.refl wr.heap.size wr).drew).size)).trans (HBQ2.out.mono (((Below.refl wr.heap.size wr).drew).trans (HBQ1.out.mono ((Below.refl wr.heap.size wr).drew).size)).size)).size)).trans (HBQ7.out.mono (((((Below.refl wr.heap.size wr).drew).trans (HBQ1.out.mono ((Below.refl wr.heap.size wr).drew).size)).trans (HBQ2.out.mono (((Below.refl wr.heap.size wr).drew).trans (HBQ1.out.mono ((Below.refl wr.heap.size wr).drew).size)).size)).trans (HBQ3.out.mono ((((Below.refl wr.heap.size wr).drew).trans (HBQ1.out.mono ((Below.refl wr.heap.size wr).drew).size)).trans (HBQ2.out.mono (((Below.refl wr.heap.size wr).drew).trans (HBQ1.out.mono ((Below.refl wr.heap.size wr).drew).size)).size)).size)).size)).size))) HLEN.out).mono ?_
          rintro e wq9 ⟨A14, c14, rfl, hs14, hb14⟩
          have HS14 := Lib.hid hs14
          have HBQ9 := Lib.hid hb14
          clear hs14 hb14
          go_wp2_with fail
          refine hK.out _ _ HBQ9.out (fun _ => ?_)
          clear hK K
          try simp only [Act.put, List.setIfInBounds_toArray, List.set_cons_zero, List.set_cons_succ]
          refine wpAnyH_mono (S' := fun w' => Below wq9.heap.size wq9 w') (fun w' h => HBQ9.out.trans (h.mono (by have := HBQ9.out.size; first | exact this | simpa using this))) ?_
          have hHeld : Below wq9.heap.size wq9 wq9 := Below.refl _ _
          refine held_yes (i := 15) (v := ?_) rfl (by kernel_rfl) (by kernel_rfl) (by kernel_rfl) (fun _ _ _ h => h) (by rfl) (fun w hSw => ?_) hHeld ?_
          rotate_left
          · have kc := str_of (HS14.out.rd.below hSw); go_simp; try with_reducible rfl
          simp only [List.setIfInBounds_toArray, List.set_cons_zero, List.set_cons_succ]
          refine held_yes (i := 16) (v := ?_) rfl (by kernel_rfl) (by kernel_rfl) (by kernel_rfl) (fun _ _ _ h => h) (by rfl) (fun w hSw => ?_) hHeld ?_
          rotate_left
          · go_simp; try with_reducible rfl
          simp only [List.setIfInBounds_toArray, List.set_cons_zero, List.set_cons_succ]
          refine held_yes (i := 17) (v := ?_) rfl (by kernel_rfl) (by kernel_rfl) (by kernel_rfl) (fun _ _ _ h => h) (by rfl) (fun w hSw => ?_) hHeld ?_
          rotate_left
          · go_simp; try with_reducible rfl
          simp only [List.setIfInBounds_toArray, List.set_cons_zero, List.set_cons_succ]
          refine held_yes (i := 18) (v := ?_) rfl (by kernel_rfl) (by kernel_rfl) (by kernel_rfl) (fun _ _ _ h => h) (by rfl) (fun w hSw => ?_) hHeld ?_
          rotate_left
          · go_simp; try with_reducible rfl
          simp only [List.setIfInBounds_toArray, List.set_cons_zero, List.set_cons_succ]
          refine wpAnyH_done (by kernel_rfl) ?_ _
          go_wp2_with fail
          go_ret
          exact ⟨rfl, (HB1.out.trans (HPA.out.below.mono HB1.out.size)).trans (((((((((Below.refl wr.heap.size wr).drew).trans (HBQ1.out.mono ((Below.refl wr.heap.size wr).drew).size)).trans (HBQ2.out.mono (((Below.refl wr.heap.size wr).drew).trans (HBQ1.out.mono ((Below.refl wr.heap.size wr).drew).size)).size)).trans (HBQ3.out.mono ((((Below.refl wr.heap.size wr).drew).trans (HBQ1.out.mono ((Below.refl wr.heap.size wr).drew).size)).trans (HBQ2.out.mono (((Below.refl wr.heap.size wr).drew).trans (HBQ1.out.mono ((Below.refl wr.heap.size wr).drew).size)).size)).size)).trans (HBQ7.out.mono (((((Below.refl wr.heap.size wr).drew).trans (HBQ1.out.mono ((Below.refl wr.heap.size wr).drew).size)).trans (HBQ2.out.mono (((Below.refl wr.heap.size wr).drew).trans (HBQ1.out.mono ((Below.refl wr.heap.size wr).drew).size)).size)).trans (HBQ3.out.mono ((((Below.refl wr.heap.size wr).drew).trans (HBQ1.out.mono ((Below.refl wr.heap.size wr).drew).size)).trans (HBQ2.out.mono (((Below.refl wr.heap.size wr).drew).trans (HBQ1.out.mono ((Below.refl wr.heap.size wr).drew).size)).size)).size)).size)).trans (HBQ8.out.mono ((((((Below.refl wr.heap.size wr).drew).trans (HBQ1.out.mono ((Below.refl wr.heap.size wr).drew).size)).trans (HBQ2.out.mono (((Below.refl wr.heap.size wr).drew).trans (HBQ1.out.mono ((Below.refl wr.heap.size wr).drew).size)).size)).trans (HBQ3.out.mono ((((Below.refl wr.heap.size wr).drew).trans (HBQ1.out.mono ((Below.refl wr.heap.size wr).drew).size)).trans (HBQ2.out.mono (((Below.refl wr.heap.size wr).drew).trans (HBQ1.out.mono ((Below.refl wr.heap.size wr).drew).size)).size)).size)).trans (HBQ7.out.mono (((((Below.refl wr.heap.size wr).drew).trans (HBQ1.out.mono ((Below.refl wr.heap.size wr).drew).size)).trans (HBQ2.out.mono (((Below.refl wr.heap.size wr).drew).trans (HBQ1.out.mono ((Below.refl wr.heap.size wr).drew).size)).size)).trans (HBQ3.out.mono ((((Below.refl wr.heap.size wr).drew).trans (HBQ1.out.mono ((Below.refl wr.heap.size wr).drew).size)).trans (HBQ2.out.mono (((Below.refl wr.heap.size wr).drew).trans (HBQ1.out.mono ((Below.refl wr.heap.size wr).drew).size)).size)).size)).size)).size)).trans (HBQ9.out.mono (((((((Below.refl wr.heap.size wr).drew).trans (HBQ1.out.mono ((Below.refl wr.heap.size wr).drew).size)).trans (HBQ2.out.mono (((Below.refl wr.heap.size wr).drew).trans (HBQ1.out.mono ((Below.refl wr.heap.size wr).drew).size)).size)).trans (HBQ3.out.mono ((((Below.refl wr.heap.size wr).drew).trans (HBQ1.out.mono ((Below.refl wr.heap.size wr).drew).size)).trans (HBQ2.out.mono (((Below.refl wr.heap.size wr).drew).trans (HBQ1.out.mono ((Below.refl wr.heap.size wr).drew).size)).size)).size)).trans (HBQ7.out.mono (((((Below.refl wr.heap.size wr).drew).trans (HBQ1.out.mono ((Below.refl wr.heap.size wr).drew).size)).trans (HBQ2.out.mono (((Below.refl wr.heap.size wr).drew).trans (HBQ1.out.mono ((Below.refl wr.heap.size wr).drew).size)).size)).trans (HBQ3.out.mono ((((Below.refl wr.heap.size wr).drew).trans (HBQ1.out.mono ((Below.refl wr.heap.size wr).drew).size)).trans (HBQ2.out.mono (((Below.refl wr.heap.size wr).drew).trans (HBQ1.out.mono ((Below.refl wr.heap.size wr).drew).size)).size)).size)).size)).trans (HBQ8.out.mono ((((((Below.refl wr.heap.size wr).drew).trans (HBQ1.out.mono ((Below.refl wr.heap.size wr).drew).size)).trans (HBQ2.out.mono (((Below.refl wr.heap.size wr).drew).trans (HBQ1.out.mono ((Below.refl wr.heap.size wr).drew).size)).size)).trans (HBQ3.out.mono ((((Below.refl wr.heap.size wr).drew).trans (HBQ1.out.mono ((Below.refl wr.heap.size wr).drew).size)).trans (HBQ2.out.mono (((Below.refl wr.heap.size wr).drew).trans (HBQ1.out.mono ((Below.refl wr.heap.size wr).drew).size)).size)).size)).trans (HBQ7.out.mono (((((Below.refl wr.heap.size wr).drew).trans (HBQ1.out.mono ((Below.refl wr.heap.size wr).drew).size)).trans (HBQ2.out.mono (((Below.refl wr.heap.size wr).drew).trans (HBQ1.out.mono ((Below.refl wr.heap.size wr).drew).size)).size)).trans (HBQ3.out.mono ((((Below.refl wr.heap.size wr).drew).trans (HBQ1.out.mono ((Below.refl wr.heap.size wr).drew).size)).trans (HBQ2.out.mono (((Below.refl wr.heap.size wr).drew).trans (HBQ1.out.mono ((Below.refl wr.heap.size wr).drew).size)).size)).size)).size)).size)).size)).mono HBS.out)⟩
      · skip
        rw [if_pos (by rfl)]
        go_wp2_with fail
        refine world_at (F := fun wx => Below wr.drew.heap.size wr.drew wx ∧ Rd wx 1 (some ⟨wr.drew.heap.size, 0, none⟩) 1 1 [.slice Aall flat.length call]) ⟨(Below.refl _ _).alloc (Nat.le_refl _) _, rd_lit wr.drew #[.slice Aall flat.length call] _ 1 1 rfl (by simp [maxLen])⟩ (fun wq10 HF => ?_)
        have HBQ10 := Lib.hid HF.out.1
        have HR4 := Lib.hid HF.out.2
        clear HF
        refine hK.out _ _ ((Below.refl wr.heap.size wr).drew.trans HBQ10.out) (fun _ => ?_)
        clear hK K
        try simp only [Act.put, List.setIfInBounds_toArray, List.set_cons_zero, List.set_cons_succ]
        refine wpAnyH_mono (S' := fun w' => Below wq10.heap.size wq10 w') (fun w' h => ((Below.refl wr.heap.size wr).drew.trans HBQ10.out).trans (h.mono (by have := HBQ10.out.size; first | exact this | simpa using this))) ?_
        have hHeld : Below wq10.heap.size wq10 wq10 := Below.refl _ _
        refine held_only (i := 1) (by kernel_rfl) rfl (fun K hK => ?_)
        rw [if_pos (by rfl)]
        go_simp
        refine (sum_any _ _ _ _ _ wq10 (HP.out.below ((HB1.out.trans (HPA.out.below.mono HB1.out.size)).trans ((((Below.refl wr.heap.size wr).drew).trans (HBQ10.out.mono ((Below.refl wr.heap.size wr).drew).size)).mono HBS.out))) (HPS.out.below ((HB1.out.trans (HPA.out.below.mono HB1.out.size)).trans ((((Below.refl wr.heap.size wr).drew).trans (HBQ10.out.mono ((Below.refl wr.heap.size wr).drew).size)).mono HBS.out))) HLEN2.out).mono ?_
        rintro e wq11 ⟨A1, c1, rfl, hs1, hb1⟩
        rw [← HFL3.out] at hs1
        have HS1 := Lib.hid hs1
        have HBQ11 := Lib.hid hb1
        clear hs1 hb1
        go_wp2_with fail
        refine hK.out _ _ HBQ11.out (fun _ => ?_)
        clear hK K
        try simp only [Act.put, List.setIfInBounds_toArray, List.set_cons_zero, List.set_cons_succ]
        refine wpAnyH_mono (S' := fun w' => Below wq11.heap.size wq11 w') (fun w' h => HBQ11.out.trans (h.mono (by have := HBQ11.out.size; first | exact this | simpa using this))) ?_
        have hHeld : Below wq11.heap.size wq11 wq11 := Below.refl _ _
        refine held_yes (i := 2) (v := ?_) rfl (by kernel_rfl) (by kernel_rfl) (by kernel_rfl) (fun _ _ _ h => h) (by rfl) (fun w hSw => ?_) hHeld ?_
        rotate_left
        · have kc := str_of (HS1.out.rd.below hSw); go_simp; try with_reducible rfl
        simp only [List.setIfInBounds_toArray, List.set_cons_zero, List.set_cons_succ]
        refine held_only (i := 5) (by kernel_rfl) rfl (fun K hK => ?_)
        rw [if_pos (by rfl)]
        go_simp
        refine (sum_one _ _ _ _ _ _ wq11 (HR4.out.below HBQ11.out) (HPA.out.seg.rd.below ((((Below.refl wr.heap.size wr).drew).trans (HBQ10.out.mono ((Below.refl wr.heap.size wr).drew).size)).trans (HBQ11.out.mono (((Below.refl wr.heap.size wr).drew).trans (HBQ10.out.mono ((Below.refl wr.heap.size wr).drew).size)).size))) HLEN.out).mono ?_
        rintro e wq12 ⟨A5, c5, rfl, hs5, hb5⟩
        have HS5 := Lib.hid hs5
        have HBQ12 := Lib.hid hb5
        clear hs5 hb5
        go_wp2_with fail
        refine hK.out _ _ HBQ12.out (fun _ => ?_)
        clear hK K
        try simp only [Act.put, List.setIfInBounds_toArray, List.set_cons_zero, List.set_cons_succ]
        refine wpAnyH_mono (S' := fun w' => Below wq12.heap.size wq12 w') (fun w' h => HBQ12.out.trans (h.mono (by have := HBQ12.out.size; first | exact this | simpa using this))) ?_
        have hHeld : Below wq12.heap.size wq12 wq12 := Below.refl _ _
        refine held_yes (i := 6) (v := ?_) rfl (by kernel_rfl) (by kernel_rfl) (by kernel_rfl) (fun _ _ _ h => h) (by rfl) (fun w hSw => ?_) hHeld ?_
        rotate_left
        · have kc := str_of (HS5.out.rd.below hSw); go_simp; try with_reducible rfl
        simp only [List.setIfInBounds_toArray, List.set_cons_zero, List.set_cons_succ]
        refine held_yes (i := 7) (v := ?_) rfl (by kernel_rfl) (by kernel_rfl) (by kernel_rfl) (fun _ _ _ h => h) (by rfl) (fun w hSw => ?_) hHeld ?_
        rotate_left
        · go_simp; try with_reducible rfl
        simp only [List.setIfInBounds_toArray, List.set_cons_zero, List.set_cons_succ]
        refine held_yes (i := 8) (v := ?_) rfl (by kernel_rfl) (by kernel_rfl) (by kernel_rfl) (fun _ _ _ h => h) (by rfl) (fun w hSw => ?_) hHeld ?_
        rotate_left
        · go_simp; try with_reducible rfl
        simp only [List.setIfInBounds_toArray, List.set_cons_zero, List.set_cons_succ]
        refine held_yes (i := 9) (v := ?_) rfl (by kernel_rfl) (by kernel_rfl) (by kernel_rfl) (fun _ _ _ h => h) (by rfl) (fun w hSw => ?_) hHeld ?_
        rotate_left
        · go_simp; try with_reducible rfl
        simp only [List.setIfInBounds_toArray, List.set_cons_zero, List.set_cons_succ]
        refine held_yes (i := 12) (v := ?_) rfl (by kernel_rfl) (by kernel_rfl) (by kernel_rfl) (fun _ _ _ h => h) (by rfl) (fun w hSw => ?_) hHeld ?_
        rotate_left
        · go_simp; try with_reducible rfl
        simp only [List.setIfInBounds_toArray, List.set_cons_zero, List.set_cons_succ]
        refine wpAnyH_ready (rs := [10, 13]) (by kernel_rfl) (by simp) (AllReadyH.cons rfl (fun K hK => ?_) (AllReadyH.cons rfl (fun K hK => ?_) AllReadyH.nil))
        · skip
          rw [if_pos (by rfl)]
          go_simp
          refine (hsum_live w1.heap.size A _ wq12 (HPA.out.live.below (((((Below.refl wr.heap.size wr).drew).trans (HBQ10.out.mono ((Below.refl wr.heap.size wr).drew).size)).trans (HBQ11.out.mono (((Below.refl wr.heap.size wr).drew).trans (HBQ10.out.mono ((Below.refl wr.heap.size wr).drew).size)).size)).trans (HBQ12.out.mono ((((Below.refl wr.heap.size wr).drew).trans (HBQ10.out.mono ((Below.refl wr.heap.size wr).drew).size)).trans (HBQ11.out.mono (((Below.refl wr.heap.size wr).drew).trans (HBQ10.out.mono ((Below.refl wr.heap.size wr).drew).size)).size)).size))) HLEN.out).mono ?_
          rintro e wq13 ⟨A10, c10, rfl, hs10, hb10⟩
          have HS10 := Lib.hid hs10
          have HBQ13 := Lib.hid hb10
          clear hs10 hb10
          go_wp2_with fail
          refine hK.out _ _ HBQ13.out (fun _ => ?_)
          clear hK K
          try simp only [Act.put, List.setIfInBounds_toArray, List.set_cons_zero, List.set_cons_succ]
          refine wpAnyH_mono (S' := fun w' => Below wq13.heap.size wq13 w') (fun w' h => HBQ13.out.trans (h.mono (by have := HBQ13.out.size; first | exact this | simpa using this))) ?_
          have hHeld : Below wq13.heap.size wq13 wq13 := Below.refl _ _
          refine held_yes (i := 11) (v := ?_) rfl (by kernel_rfl) (by kernel_rfl) (by kernel_rfl) (fun _ _ _ h => h) (by rfl) (fun w hSw => ?_) hHeld ?_
          rotate_left
          · have kc := str_of (HS10.out.rd.below hSw); go_simp; try with_reducible rfl
          simp only [List.setIfInBounds_toArray, List.set_cons_zero, List.set_cons_succ]
          refine held_only (i := 13) (by kernel_rfl) rfl (fun K hK => ?_)
          rw [if_pos (by rfl)]
          go_wp2_with fail
          refine world_at (F := fun wx => Below wq13.heap.size wq13 wx ∧ Rd wx 1 (some ⟨wq13.heap.size, 0, none⟩) 1 1 [.slice Aall flat.length call]) ⟨(Below.refl _ _).alloc (Nat.le_refl _) _, rd_lit wq13 #[.slice Aall flat.length call] _ 1 1 rfl (by simp [maxLen])⟩ (fun wq14 HF => ?_)
          have HBQ14 := Lib.hid HF.out.1
          have HR13 := Lib.hid HF.out.2
          clear HF
          refine hK.out _ _ HBQ14.out (fun _ => ?_)
          clear hK K
          try simp only [Act.put, List.setIfInBounds_toArray, List.set_cons_zero, List.set_cons_succ]
          refine wpAnyH_mono (S' := fun w' => Below wq14.heap.size wq14 w') (fun w' h => HBQ14.out.trans (h.mono (by have := HBQ14.out.size; first | exact this | simpa using this))) ?_
          have hHeld : Below wq14.heap.size wq14 wq14 := Below.refl _ _
          refine held_only (i := 14) (by kernel_rfl) rfl (fun K hK => ?_)
          rw [if_pos (by rfl)]
          go_simp
          refine (sum_one _ _ _ _ _ _ wq14 (HR13.out.below (Below.refl _ _)) (HPA.out.seg.rd.below (((((((Below.refl wr.heap.size wr).drew).trans (HBQ10.out.mono ((Below.refl wr.heap.size wr).drew).size)).trans (HBQ11.out.mono (((Below.refl wr.heap.size wr).drew).trans (HBQ10.out.mono ((Below.refl wr.heap.size wr).drew).size)).size)).trans (HBQ12.out.mono ((((Below.refl wr.heap.size wr).drew).trans (HBQ10.out.mono ((Below.refl wr.heap.size wr).drew).size)).trans (HBQ11.out.mono (((Below.refl wr.heap.size wr).drew).trans (HBQ10.out.mono ((Below.refl wr.heap.size wr).drew).size)).size)).size)).trans (HBQ13.out.mono (((((Below.refl wr.heap.size wr).drew).trans (HBQ10.out.mono ((Below.refl wr.heap.size wr).drew).size)).trans (HBQ11.out.mono (((Below.refl wr.heap.size wr).drew).trans (HBQ10.out.mono ((Below.refl wr.heap.size wr).drew).size)).size)).trans (HBQ12.out.mono ((((Below.refl wr.heap.size wr).drew).trans (HBQ10.out.mono ((Below.refl wr.heap.size wr).drew).size)).trans (HBQ11.out.mono (((Below.refl wr.heap.size wr).drew).trans (HBQ10.out.mono ((Below.refl wr.heap.size wr).drew).size)).size)).size)).size)).trans (HBQ14.out.mono ((((((Below.refl wr.heap.size wr).drew).trans (HBQ10.out.mono ((Below.refl wr.heap.size wr).drew).size)).trans (HBQ11.out.mono (((Below.refl wr.heap.size wr).drew).trans (HBQ10.out.mono ((Below.refl wr.heap.size wr).drew).size)).size)).trans (HBQ12.out.mono ((((Below.refl wr.heap.size wr).drew).trans (HBQ10.out.mono ((Below.refl wr.heap.size wr).drew).size)).trans (HBQ11.out.mono (((Below.refl wr.heap.size wr).drew).trans (HBQ10.out.mono ((Below.refl wr.heap.size wr).drew).size)).size)).size)).trans (HBQ13.out.mono (((((Below.refl wr.heap.size wr).drew).trans (HBQ10.out.mono ((Below.refl wr.heap.size wr).drew).size)).trans (HBQ11.out.mono (((Below.refl wr.heap.size wr).drew).trans (HBQ10.out.mono ((Below.refl wr.heap.size wr).drew).size)).size)).trans (HBQ12.out.mono ((((Below.refl wr.heap.size wr).drew).trans (HBQ10.out.mono ((Below.refl wr.heap.size wr).drew).size)).trans (HBQ11.out.mono (((Below.refl wr.heap.size wr).drew).trans (HBQ10.out.mono ((Below.refl wr.heap.size wr).drew).size)).size)).size)).size)).size))) HLEN.out).mono ?_
          rintro e wq15 ⟨A14, c14, rfl, hs14, hb14⟩
          have HS14 := Lib.hid hs14
          have HBQ15 := Lib.hid hb14
          clear hs14 hb14
          go_wp2_with fail
          refine hK.out _ _ HBQ15.out (fun _ => ?_)
          clear hK K
          try simp only [Act.put, List.setIfInBounds_toArray, List.set_cons_zero, List.set_cons_succ]
          refine wpAnyH_mono (S' := fun w' => Below wq15.heap.size wq15 w') (fun w' h => HBQ15.out.trans (h.mono (by have := HBQ15.out.size; first | exact this | simpa using this))) ?_
          have hHeld : Below wq15.heap.size wq15 wq15 := Below.refl _ _
          refine held_yes (i := 15) (v := ?_) rfl (by kernel_rfl) (by kernel_rfl) (by kernel_rfl) (fun _ _ _ h => h) (by rfl) (fun w hSw => ?_) hHeld ?_
          rotate_left
          · have kc := str_of (HS14.out.rd.below hSw); go_simp; try with_reducible rfl
          simp only [List.setIfInBounds_toArray, List.set_cons_zero, List.set_cons_succ]
          refine held_yes (i := 16) (v := ?_) rfl (by kernel_rfl) (by kernel_rfl) (by kernel_rfl) (fun _ _ _ h => h) (by rfl) (fun w hSw => ?_) hHeld ?_
          rotate_left
          · go_simp; try with_reducible rfl
          simp only [List.setIfInBounds_toArray, List.set_cons_zero, List.set_cons_succ]
          refine held_yes (i := 17) (v := ?_) rfl (by kernel_rfl) (by kernel_rfl) (by kernel_rfl) (fun _ _ _ h => h) (by rfl) (fun w hSw => ?_) hHeld ?_
          rotate_left
          · go_simp; try with_reducible rfl
          simp only [List.setIfInBounds_toArray, List.set_cons_zero, List.set_cons_succ]
          refine held_yes (i := 18) (v := ?_) rfl (by kernel_rfl) (by kernel_rfl) (by kernel_rfl) (fun _ _ _ h => h) (by rfl) (fun w hSw => ?_) hHeld ?_
          rotate_left
          · go_simp; try with_reducible rfl
          simp only [List.setIfInBounds_toArray, List.set_cons_zero, List.set_cons_succ]
          refine wpAnyH_done (by kernel_rfl) ?_ _
          go_wp2_with fail
          go_ret
          exact ⟨rfl, (HB1.out.trans (HPA.out.below.mono HB1.out.size)).trans (((((((((Below.refl wr.heap.size wr).drew).trans (HBQ10.out.mono ((Below.refl wr.heap.size wr).drew).size)).trans (HBQ11.out.mono (((Below.refl wr.heap.size wr).drew).trans (HBQ10.out.mono ((Below.refl wr.heap.size wr).drew).size)).size)).trans (HBQ12.out.mono ((((Below.refl wr.heap.size wr).drew).trans (HBQ10.out.mono ((Below.refl wr.heap.size wr).drew).size)).trans (HBQ11.out.mono (((Below.refl wr.heap.size wr).drew).trans (HBQ10.out.mono ((Below.refl wr.heap.size wr).drew).size)).size)).size)).trans (HBQ13.out.mono (((((Below.refl wr.heap.size wr).drew).trans (HBQ10.out.mono ((Below.refl wr.heap.size wr).drew).size)).trans (HBQ11.out.mono (((Below.refl wr.heap.size wr).drew).trans (HBQ10.out.mono ((Below.refl wr.heap.size wr).drew).size)).size)).trans (HBQ12.out.mono ((((Below.refl wr.heap.size wr).drew).trans (HBQ10.out.mono ((Below.refl wr.heap.size wr).drew).size)).trans (HBQ11.out.mono (((Below.refl wr.heap.size wr).drew).trans (HBQ10.out.mono ((Below.refl wr.heap.size wr).drew).size)).size)).size)).size)).trans (HBQ14.out.mono ((((((Below.refl wr.heap.size wr).drew).trans (HBQ10.out.mono ((Below.refl wr.heap.size wr).drew).size)).trans (HBQ11.out.mono (((Below.refl wr.heap.size wr).drew).trans (HBQ10.out.mono ((Below.refl wr.heap.size wr).drew).size)).size)).trans (HBQ12.out.mono ((((Below.refl wr.heap.size wr).drew).trans (HBQ10.out.mono ((Below.refl wr.heap.size wr).drew).size)).trans (HBQ11.out.mono (((Below.refl wr.heap.size wr).drew).trans (HBQ10.out.mono ((Below.refl wr.heap.size wr).drew).size)).size)).size)).trans (HBQ13.out.mono (((((Below.refl wr.heap.size wr).drew).trans (HBQ10.out.mono ((Below.refl wr.heap.size wr).drew).size)).trans (HBQ11.out.mono (((Below.refl wr.heap.size wr).drew).trans (HBQ10.out.mono ((Below.refl wr.heap.size wr).drew).size)).size)).trans (HBQ12.out.mono ((((Below.refl wr.heap.size wr).drew).trans (HBQ10.out.mono ((Below.refl wr.heap.size wr).drew).size)).trans (HBQ11.out.mono (((Below.refl wr.heap.size wr).drew).trans (HBQ10.out.mono ((Below.refl wr.heap.size wr).drew).size)).size)).size)).size)).size)).trans (HBQ15.out.mono (((((((Below.refl wr.heap.size wr).drew).trans (HBQ10.out.mono ((Below.refl wr.heap.size wr).drew).size)).trans (HBQ11.out.mono (((Below.refl wr.heap.size wr).drew).trans (HBQ10.out.mono ((Below.refl wr.heap.size wr).drew).size)).size)).trans (HBQ12.out.mono ((((Below.refl wr.heap.size wr).drew).trans (HBQ10.out.mono ((Below.refl wr.heap.size wr).drew).size)).trans (HBQ11.out.mono (((Below.refl wr.heap.size wr).drew).trans (HBQ10.out.mono ((Below.refl wr.heap.size wr).drew).size)).size)).size)).trans (HBQ13.out.mono (((((Below.refl wr.heap.size wr).drew).trans (HBQ10.out.mono ((Below.refl wr.heap.size wr).drew).size)).trans (HBQ11.out.mono (((Below.refl wr.heap.size wr).drew).trans (HBQ10.out.mono ((Below.refl wr.heap.size wr).drew).size)).size)).trans (HBQ12.out.mono ((((Below.refl wr.heap.size wr).drew).trans (HBQ10.out.mono ((Below.refl wr.heap.size wr).drew).size)).trans (HBQ11.out.mono (((Below.refl wr.heap.size wr).drew).trans (HBQ10.out.mono ((Below.refl wr.heap.size wr).drew).size)).size)).size)).size)).trans (HBQ14.out.mono ((((((Below.refl wr.heap.size wr).drew).trans (HBQ10.out.mono ((Below.refl wr.heap.size wr).drew).size)).trans (HBQ11.out.mono (((Below.refl wr.heap.size wr).drew).trans (HBQ10.out.mono ((Below.refl wr.heap.size wr).drew).size)).size)).trans (HBQ12.out.mono ((((Below.refl wr.heap.size wr).drew).trans (HBQ10.out.mono ((Below.refl wr.heap.size wr).drew).size)).trans (HBQ11.out.mono (((Below.refl wr.heap.size wr).drew).trans (HBQ10.out.mono ((Below.refl wr.heap.size wr).drew).size)).size)).size)).trans (HBQ13.out.mono (((((Below.refl wr.heap.size wr).drew).trans (HBQ10.out.mono ((Below.refl wr.heap.size wr).drew).size)).trans (HBQ11.out.mono (((Below.refl wr.heap.size wr).drew).trans (HBQ10.out.mono ((Below.refl wr.heap.size wr).drew).size)).size)).trans (HBQ12.out.mono ((((Below.refl wr.heap.size wr).drew).trans (HBQ10.out.mono ((Below.refl wr.heap.size wr).drew).size)).trans (HBQ11.out.mono (((Below.refl wr.heap.size wr).drew).trans (HBQ10.out.mono ((Below.refl wr.heap.size wr).drew).size)).size)).size)).size)).size)).size)).mono HBS.out)⟩
        · skip
          rw [if_pos (by rfl)]
          go_wp2_with fail
          refine world_at (F := fun wx => Below wq12.heap.size wq12 wx ∧ Rd wx 1 (some ⟨wq12.heap.size, 0, none⟩) 1 1 [.slice Aall flat.length call]) ⟨(Below.refl _ _).alloc (Nat.le_refl _) _, rd_lit wq12 #[.slice Aall flat.length call] _ 1 1 rfl (by simp [maxLen])⟩ (fun wq16 HF => ?_)
          have HBQ16 := Lib.hid HF.out.1
          have HR13 := Lib.hid HF.out.2
          clear HF
          refine hK.out _ _ HBQ16.out (fun _ => ?_)
          clear hK K
          try simp only [Act.put, List.setIfInBounds_toArray, List.set_cons_zero, List.set_cons_succ]
          refine wpAnyH_mono (S' := fun w' => Below wq16.heap.size wq16 w') (fun w' h => HBQ16.out.trans (h.mono (by have := HBQ16.out.size; first | exact this | simpa using this))) ?_
          have hHeld : Below wq16.heap.size wq16 wq16 := Below.refl _ _
          refine held_only (i := 10) (by kernel_rfl) rfl (fun K hK => ?_)
          rw [if_pos (by rfl)]
          go_simp
          refine (hsum_live w1.heap.size A _ wq16 (HPA.out.live.below ((((((Below.refl wr.heap.size wr).drew).trans (HBQ10.out.mono ((Below.refl wr.heap.size wr).drew).size)).trans (HBQ11.out.mono (((Below.refl wr.heap.size wr).drew).trans (HBQ10.out.mono ((Below.refl wr.heap.size wr).drew).size)).size)).trans (HBQ12.out.mono ((((Below.refl wr.heap.size wr).drew).trans (HBQ10.out.mono ((Below.refl wr.heap.size wr).drew).size)).trans (HBQ11.out.mono (((Below.refl wr.heap.size wr).drew).trans (HBQ10.out.mono ((Below.refl wr.heap.size wr).drew).size)).size)).size)).trans (HBQ16.out.mono (((((Below.refl wr.heap.size wr).drew).trans (HBQ10.out.mono ((Below.refl wr.heap.size wr).drew).size)).trans (HBQ11.out.mono (((Below.refl wr.heap.size wr).drew).trans (HBQ10.out.mono ((Below.refl wr.heap.size wr).drew).size)).size)).trans (HBQ12.out.mono ((((Below.refl wr.heap.size wr).drew).trans (HBQ10.out.mono ((Below.refl wr.heap.size wr).drew).size)).trans (HBQ11.out.mono (((Below.refl wr.heap.size wr).drew).trans (HBQ10.out.mono ((Below.refl wr.heap.size wr).drew).size)).size)).size)).size))) HLEN.out).mono ?_
          rintro e wq17 ⟨A10, c10, rfl, hs10, hb10⟩
          have HS10 := Lib.hid hs10
          have HBQ17 := Lib.hid hb10
          clear hs10 hb10
          go_wp2_with fail
          refine hK.out _ _ HBQ17.out (fun _ => ?_)
          clear hK K
          try simp only [Act.put, List.setIfInBounds_toArray, List.set_cons_zero, List.set_cons_succ]
          refine wpAnyH_mono (S' := fun w' => Below wq17.heap.size wq17 w') (fun w' h => HBQ17.out.trans (h.mono (by have := HBQ17.out.size; first | exact this | simpa using this))) ?_
          have hHeld : Below wq17.heap.size wq17 wq17 := Below.refl _ _
          refine held_yes (i := 11) (v := ?_) rfl (by kernel_rfl) (by kernel_rfl) (by kernel_rfl) (fun _ _ _ h => h) (by rfl) (fun w hSw => ?_) hHeld ?_
          rotate_left
          · have kc := str_of (HS10.out.rd.below hSw); go_simp; try with_reducible rfl
          simp only [List.setIfInBounds_toArray, List.set_cons_zero, List.set_cons_succ]
          refine held_only (i := 14) (by kernel_rfl) rfl (fun K hK => ?_)
          rw [if_pos (by rfl)]
          go_simp
          refine (sum_one _ _ _ _ _ _ wq17 (HR13.out.below HBQ17.out) (HPA.out.seg.rd.below (((((((Below.refl wr.heap.size wr).drew).trans (HBQ10.out.mono ((Below.refl wr.heap.size wr).drew).size)).trans (HBQ11.out.mono (((Below.refl wr.heap.size wr).drew).trans (HBQ10.out.mono ((Below.refl wr.heap.size wr).drew).size)).size)).trans (HBQ12.out.mono ((((Below.refl wr.heap.size wr).drew).trans (HBQ10.out.mono ((Below.refl wr.heap.size wr).drew).size)).trans (HBQ11.out.mono (((Below.refl wr.heap.size wr).drew).trans (HBQ10.out.mono ((Below.refl wr.heap.size wr).drew).size)).size)).size)).trans (HBQ16.out.mono (((((Below.refl wr.heap.size wr).drew).trans (HBQ10.out.mono ((Below.refl wr.heap.size wr).drew).size)).trans (HBQ11.out.mono (((Below.refl wr.heap.size wr).drew).trans (HBQ10.out.mono ((Below.refl wr.heap.size wr).drew).size)).size)).trans (HBQ12.out.mono ((((Below.refl wr.heap.size wr).drew).trans (HBQ10.out.mono ((Below.refl wr.heap.size wr).drew).size)).trans (HBQ11.out.mono (((Below.refl wr.heap.size wr).drew).trans (HBQ10.out.mono ((Below.refl wr.heap.size wr).drew).size)).size)).size)).size)).trans (HBQ17.out.mono ((((((Below.refl wr.heap.size wr).drew).trans (HBQ10.out.mono ((Below.refl wr.heap.size wr).drew).size)).trans (HBQ11.out.mono (((Below.refl wr.heap.size wr).drew).trans (HBQ10.out.mono ((Below.refl wr.heap.size wr).drew).size)).size)).trans (HBQ12.out.mono ((((Below.refl wr.heap.size wr).drew).trans (HBQ10.out.mono ((Below.refl wr.heap.size wr).drew).size)).trans (HBQ11.out.mono (((Below.refl wr.heap.size wr).drew).trans (HBQ10.out.mono ((Below.refl wr.heap.size wr).drew).size)).size)).size)).trans (HBQ16.out.mono (((((Below.refl wr.heap.size wr).drew).trans (HBQ10.out.mono ((Below.refl wr.heap.size wr).drew).size)).trans (HBQ11.out.mono (((Below.refl wr.heap.size wr).drew).trans (HBQ10.out.mono ((Below.refl wr.heap.size wr).drew).size)).size)).trans (HBQ12.out.mono ((((Below.refl wr.heap.size wr).drew).trans (HBQ10.out.mono ((Below.refl wr.heap.size wr).drew).size)).trans (HBQ11.out.mono (((Below.refl wr.heap.size wr).drew).trans (HBQ10.out.mono ((Below.refl wr.heap.size wr).drew).size)).size)).size)).size)).size))) HLEN.out).mono ?_
          rintro e wq18 ⟨A14, c14, rfl, hs14, hb14⟩
          have HS14 := Lib.hid hs14
          have HBQ18 := Lib.hid hb14
          clear hs14 hb14
          go_wp2_with fail
          refine hK.out _ _ HBQ18.out (fun _ => ?_)
          clear hK K
          try simp only [Act.put, List.setIfInBounds_toArray, List.set_cons_zero, List.set_cons_succ]
          refine wpAnyH_mono (S' := fun w' => Below wq18.heap.size wq18 w') (fun w' h => HBQ18.out.trans (h.mono (by have := HBQ18.out.size; first | exact this | simpa using this))) ?_
          have hHeld : Below wq18.heap.size wq18 wq18 := Below.refl _ _
          refine held_yes (i := 15) (v := ?_) rfl (by kernel_rfl) (by kernel_rfl) (by kernel_rfl) (fun _ _ _ h => h) (by rfl) (fun w hSw => ?_) hHeld ?_
          rotate_left
          · have kc := str_of (HS14.out.rd.below hSw); go_simp; try with_reducible rfl
          simp only [List.setIfInBounds_toArray, List.set_cons_zero, List.set_cons_succ]
          refine held_yes (i := 16) (v := ?_) rfl (by kernel_rfl) (by kernel_rfl) (by kernel_rfl) (fun _ _ _ h => h) (by rfl) (fun w hSw => ?_) hHeld ?_
          rotate_left
          · go_simp; try with_reducible rfl
          simp only [List.setIfInBounds_toArray, List.set_cons_zero, List.set_cons_succ]
          refine held_yes (i := 17) (v := ?_) rfl (by kernel_rfl) (by kernel_rfl) (by kernel_rfl) (fun _ _ _ h => h) (by rfl) (fun w hSw => ?_) hHeld ?_
          rotate_left
          · go_simp; try with_reducible rfl
          simp only [List.setIfInBounds_toArray, List.set_cons_zero, List.set_cons_succ]
          refine held_yes (i := 18) (v := ?_) rfl (by kernel_rfl) (by kernel_rfl) (by kernel_rfl) (fun _ _ _ h => h) (by rfl) (fun w hSw => ?_) hHeld ?_
          rotate_left
          · go_simp; try with_reducible rfl
          simp only [List.setIfInBounds_toArray, List.set_cons_zero, List.set_cons_succ]
          refine wpAnyH_done (by kernel_rfl) ?_ _
          go_wp2_with fail
          go_ret
          exact ⟨rfl, (HB1.out.trans (HPA.out.below.mono HB1.out.size)).trans (((((((((Below.refl wr.heap.size wr).drew).trans (HBQ10.out.mono ((Below.refl wr.heap.size wr).drew).size)).trans (HBQ11.out.mono (((Below.refl wr.heap.size wr).drew).trans (HBQ10.out.mono ((Below.refl wr.heap.size wr).drew).size)).size)).trans (HBQ12.out.mono ((((Below.refl wr.heap.size wr).drew).trans (HBQ10.out.mono ((Below.refl wr.heap.size wr).drew).size)).trans (HBQ11.out.mono (((Below.refl wr.heap.size wr).drew).trans (HBQ10.out.mono ((Below.refl wr.heap.size wr).drew).size)).size)).size)).trans (HBQ16.out.mono (((((Below.refl wr.heap.size wr).drew).trans (HBQ10.out.mono ((Below.refl wr.heap.size wr).drew).size)).trans (HBQ11.out.mono (((Below.refl wr.heap.size wr).drew).trans (HBQ10.out.mono ((Below.refl wr.heap.size wr).drew).size)).size)).trans (HBQ12.out.mono ((((Below.refl wr.heap.size wr).drew).trans (HBQ10.out.mono ((Below.refl wr.heap.size wr).drew).size)).trans (HBQ11.out.mono (((Below.refl wr.heap.size wr).drew).trans (HBQ10.out.mono ((Below.refl wr.heap.size wr).drew).size)).size)).size)).size)).trans (HBQ17.out.mono ((((((Below.refl wr.heap.size wr).drew).trans (HBQ10.out.mono ((Below.refl wr.heap.size wr).drew).size)).trans (HBQ11.out.mono (((Below.refl wr.heap.size wr).drew).trans (HBQ10.out.mono ((Below.refl wr.heap.size wr).drew).size)).size)).trans (HBQ12.out.mono ((((Below.refl wr.heap.size wr).drew).trans (HBQ10.out.mono ((Below.refl wr.heap.size wr).drew).size)).trans (HBQ11.out.mono (((Below.refl wr.heap.size wr).drew).trans (HBQ10.out.mono ((Below.refl wr.heap.size wr).drew).size)).size)).size)).trans (HBQ16.out.mono (((((Below.refl wr.heap.size wr).drew).trans (HBQ10.out.mono ((Below.refl wr.heap.size wr).drew).size)).trans (HBQ11.out.mono (((Below.refl wr.heap.size wr).drew).trans (HBQ10.out.mono ((Below.refl wr.heap.size wr).drew).size)).size)).trans (HBQ12.out.mono ((((Below.refl wr.heap.size wr).drew).trans (HBQ10.out.mono ((Below.refl wr.heap.size wr).drew).size)).trans (HBQ11.out.mono (((Below.refl wr.heap.size wr).drew).trans (HBQ10.out.mono ((Below.refl wr.heap.size wr).drew).size)).size)).size)).size)).size)).trans (HBQ18.out.mono (((((((Below.refl wr.heap.size wr).drew).trans (HBQ10.out.mono ((Below.refl wr.heap.size wr).drew).size)).trans (HBQ11.out.mono (((Below.refl wr.heap.size wr).drew).trans (HBQ10.out.mono ((Below.refl wr.heap.size wr).drew).size)).size)).trans (HBQ12.out.mono ((((Below.refl wr.heap.size wr).drew).trans (HBQ10.out.mono ((Below.refl wr.heap.size wr).drew).size)).trans (HBQ11.out.mono (((Below.refl wr.heap.size wr).drew).trans (HBQ10.out.mono ((Below.refl wr.heap.size wr).drew).size)).size)).size)).trans (HBQ16.out.mono (((((Below.refl wr.heap.size wr).drew).trans (HBQ10.out.mono ((Below.refl wr.heap.size wr).drew).size)).trans (HBQ11.out.mono (((Below.refl wr.heap.size wr).drew).trans (HBQ10.out.mono ((Below.refl wr.heap.size wr).drew).size)).size)).trans (HBQ12.out.mono ((((Below.refl wr.heap.size wr).drew).trans (HBQ10.out.mono ((Below.refl wr.heap.size wr).drew).size)).trans (HBQ11.out.mono (((Below.refl wr.heap.size wr).drew).trans (HBQ10.out.mono ((Below.refl wr.heap.size wr).drew).size)).size)).size)).size)).trans (HBQ17.out.mono ((((((Below.refl wr.heap.size wr).drew).trans (HBQ10.out.mono ((Below.refl wr.heap.size wr).drew).size)).trans (HBQ11.out.mono (((Below.refl wr.heap.size wr).drew).trans (HBQ10.out.mono ((Below.refl wr.heap.size wr).drew).size)).size)).trans (HBQ12.out.mono ((((Below.refl wr.heap.size wr).drew).trans (HBQ10.out.mono ((Below.refl wr.heap.size wr).drew).size)).trans (HBQ11.out.mono (((Below.refl wr.heap.size wr).drew).trans (HBQ10.out.mono ((Below.refl wr.heap.size wr).drew).size)).size)).size)).trans (HBQ16.out.mono (((((Below.refl wr.heap.size wr).drew).trans (HBQ10.out.mono ((Below.refl wr.heap.size wr).drew).size)).trans (HBQ11.out.mono (((Below.refl wr.heap.size wr).drew).trans (HBQ10.out.mono ((Below.refl wr.heap.size wr).drew).size)).size)).trans (HBQ12.out.mono ((((Below.refl wr.heap.size wr).drew).trans (HBQ10.out.mono ((Below.refl wr.heap.size wr).drew).size)).trans (HBQ11.out.mono (((Below.refl wr.heap.size wr).drew).trans (HBQ10.out.mono ((Below.refl wr.heap.size wr).drew).size)).size)).size)).size)).size)).size)).mono HBS.out)⟩

theorem open_bytess : Opens Try.prog 43 (RSlice 1 RBytes) := opens_slice Try.underlying43 (by kernel_rfl) (by decide) open_bytes1
theorem Parts.of {w : World} {cells : List Value} {bss : List (List UInt8)} (hl : cells.length = bss.length * 1) (h : ∀ i m, bss[i]? = some m → RBytes w ((cells.drop (i * 1)).take 1) m) : Parts w cells bss := by
  refine ⟨by omega, fun k v bs hv hbs => ?_⟩
  obtain ⟨A, c, he, hr⟩ := h k bs hbs
  have hk : k < cells.length := (List.getElem?_eq_some_iff.1 hv).1
  rw [Nat.mul_one, List.take_one, List.head?_drop, hv] at he
  simp at he
  exact ⟨A, _, c, he, hr⟩
theorem ShaParts_walk (w : World) (A : Option Addr) (n c : Nat) (bss : List (List UInt8)) (h : RSlice 1 RBytes w [.slice A n c] bss) : Calls Try.prog 9 #[.slice A n c] w (Tells w true) := by
  obtain ⟨A', c', cells, he, hr, hp⟩ := h
  simp only [List.cons.injEq, Value.slice.injEq, and_true] at he
  obtain ⟨rfl, rfl, rfl⟩ := he
  exact ShaParts_ok w A _ c cells bss hr (Parts.of hr.len hp)

end Go.Proofs.Ytpcncogmhnncpaa
