/- Hashes as their holders know them; the contract of sha.Sum. -/
import Derived.Test.YthpigmkdchnnoaaSha6
import Derived.Test.YthpigmkdchnnoaaReg
namespace Go.Proofs.Ythpigmkdchnnoaa
open Go.RowKit
set_option linter.unusedVariables false
set_option linter.unusedSimpArgs false

/-- A hash of msg, in the block hb; its rest lies at A. -/
def Live (w : World) (hb : Nat) (A : Option Addr) (msg : List UInt8) : Prop := ∃ k n c, Hsh w hb hb k A n c msg.length msg ∧ n < 64
namespace Live
variable {w w' : World} {hb : Nat} {A : Option Addr} {msg : List UInt8}
theorem lt (h : Live w hb A msg) : hb < w.heap.size := let ⟨_, _, _, h, _⟩ := h; h.lt
theorem own (h : Live w hb A msg) : ∀ a, A = some a → hb < a.block ∧ a.block < w.heap.size := fun a ha => let ⟨_, _, _, h, _⟩ := h; ⟨h.seg.base_le a ha, h.seg.lt a ha⟩
theorem touch {S : Nat → Prop} (h : Live w hb A msg) (ht : Touch S w w') (h1 : ¬ S hb) (h2 : ∀ a, A = some a → ¬ S a.block) : Live w' hb A msg := by
  obtain ⟨k, n, c, h, hn⟩ := h
  exact ⟨k, n, c, ⟨(ht.block hb h.lt h1).trans h.row, h.seg.touch ht h2, h.base, h.le⟩, hn⟩
theorem below (h : Live w hb A msg) (hb1 : Below w.heap.size w w') : Live w' hb A msg :=
  h.touch (S := fun _ => False) (Touch.of_below hb1) id (fun _ _ => id)
theorem new (w : World) : Live (w.alloc (.cells (hCells h0 (.slice none 0 0) 0) 105 (0, 0))) w.heap.size none [] :=
  ⟨0, 0, 0, ⟨by rw [heap_alloc_new]; rfl, Seg.nil _ _ _, Nat.le_refl _, Nat.le_refl _⟩, by decide⟩
end Live
theorem write_live (hb : Nat) (A : Option Addr) (msg bs : List UInt8) (Ab : Option Addr) (nb cb : Nat) (w : World) (hh : Live w hb A msg) (hr : Rd w 1 Ab nb cb (bvs bs)) (hne : 0 < nb → ∀ a, Ab = some a → a.block ≠ hb)
    (hlen : msg.length + bs.length ≤ 1099511627776) :
    Calls Try.prog 46 #[.pointer (some ⟨hb, 0, none⟩), .slice Ab nb cb] w fun e w' => e = .returned (.tuple #[]) ∧ ∃ A', Live w' hb A' (msg ++ bs) ∧ Touch (Own hb A) w w' ∧ ∀ a, A' = some a → (∃ a0, A = some a0 ∧ a0.block = a.block) ∨ w.heap.size ≤ a.block := by
  obtain ⟨k, n, c, hh, hn⟩ := hh
  refine (write_any hb hb k A n c msg.length msg bs Ab nb cb w hh hr hne hlen (by omega) (by omega)).mono ?_
  rintro e w' ⟨rfl, ⟨k', A', n', c', h', ht, ha⟩, hlt⟩
  refine ⟨rfl, A', ⟨k', n', c', ?_, ?_⟩, ht, ha⟩
  · rw [List.length_append]; push_cast; exact h'
  · simpa [restLen, h'.rest] using hlt
theorem hsum_live (hb : Nat) (A : Option Addr) (msg : List UInt8) (w : World) (hh : Live w hb A msg) (hm : msg.length ≤ 1099511627776) :
    Calls Try.prog 47 #[.pointer (some ⟨hb, 0, none⟩)] w fun e w' => ∃ A' c', e = .returned (.slice A' 32 c') ∧ Seg w' w.heap.size 1 A' 32 c' (bvs (sumB msg)) ∧ Below w.heap.size w w' := by
  obtain ⟨k, n, c, hh, hn⟩ := hh
  exact hsum_any hb hb k A n c msg w hh hn hm

/-- Slices of bytes, read. -/
def Parts (w : World) (vs : List Value) (bss : List (List UInt8)) : Prop := vs.length = bss.length ∧ ∀ (k : Nat) (v : Value) (bs : List UInt8), vs[k]? = some v → bss[k]? = some bs → ∃ (A : Option Addr) (n c : Nat), v = Value.slice A n c ∧ Rd w 1 A n c (bvs bs)
theorem Parts.below {w w' : World} {vs : List Value} {bss : List (List UInt8)} (h : Parts w vs bss) (hb : Below w.heap.size w w') : Parts w' vs bss :=
  ⟨h.1, fun k v bs hv hbs => let ⟨A, n, c, e, hr⟩ := h.2 k v bs hv hbs; ⟨A, n, c, e, hr.below hb⟩⟩
theorem Parts.one {w : World} {A : Option Addr} {n c : Nat} {bs : List UInt8} (h : Rd w 1 A n c (bvs bs)) : Parts w [.slice A n c] [bs] :=
  ⟨rfl, fun k v b hv hb => match k, hv, hb with
    | 0, hv, hb => by simp at hv hb; subst hv; subst hb; exact ⟨A, n, c, rfl, h⟩
    | k + 1, hv, hb => by simp at hv⟩
theorem flatten_take_succ (bss : List (List UInt8)) (k : Nat) (bs : List UInt8) (h : bss[k]? = some bs) : (bss.take (k + 1)).flatten = (bss.take k).flatten ++ bs := by
  rw [List.take_add_one, h]; simp
theorem flatten_take_le (bss : List (List UInt8)) (k : Nat) : (bss.take k).flatten.length ≤ bss.flatten.length := by
  have : bss.flatten = (bss.take k).flatten ++ (bss.drop k).flatten := by rw [← List.flatten_append, List.take_append_drop]
  rw [this, List.length_append]; omega

set_option maxRecDepth 100000 in
set_option maxHeartbeats 1000000 in
theorem sum_any (Ap : Option Addr) (np cp : Nat) (vs : List Value) (bss : List (List UInt8)) (w : World) (hp : Rd w 1 Ap np cp vs) (hps : Parts w vs bss) (hm : bss.flatten.length ≤ 1099511627776) :
    Calls Try.prog 35 #[.slice Ap np cp] w fun e w' => ∃ A' c', e = .returned (.slice A' 32 c') ∧ Seg w' w.heap.size 1 A' 32 c' (bvs (sumB bss.flatten)) ∧ Below w.heap.size w w' := by
  have HP := Lib.hid hp
  have HPS := Lib.hid hps
  have hnp : np < 9223372036854775808 := by have := hp.cap; have := hp.max; simp only [maxLen] at this; omega
  have HL : Hid (np = bss.length) := Lib.hid (by have := hp.len; have := hps.1; omega)
  clear hp hps
  go_enter Try.func35, Try.ntmps35
  go_wp2_with fail
  refine (new_any w).mono ?_
  rintro e w1 ⟨rfl, hw1⟩
  have HLV : Hid (Live w1 w.heap.size none (bss.take 0).flatten) := Lib.hid (by rw [hw1]; exact Live.new w)
  have HB : Hid (Below w.heap.size w w1) := Lib.hid (by rw [hw1]; exact (Below.refl _ _).alloc (Nat.le_refl _) _)
  clear hw1
  go_wp2_with fail
  go_loopw [9] (fun s9 wr => ∃ k : Nat, k ≤ np ∧ s9 = .int .i64 k ∧ ∃ A, Live wr w.heap.size A (bss.take k).flatten ∧ Below w.heap.size w wr) (fun s9 _ => np - (intOf s9).toNat)
  case atStart => exact ⟨0, by omega, rfl, none, HLV.out, HB.out⟩
  case round =>
    obtain ⟨k, hk, rfl, A, hlv, hb⟩ := hrel
    have HLV2 := Lib.hid hlv
    have HB2 := Lib.hid hb
    clear hlv hb HLV HB
    by_cases hlt : k < np
    · obtain ⟨b, o, rfl, hx⟩ := HP.out.at_ (by omega)
      have hvl : k < vs.length := by have := HP.out.len; omega
      have hbl : k < bss.length := by have := HL.out; omega
      have hc0 := (HP.out.below HB2.out).at_ (by omega)
      obtain ⟨b', o', hA', hx'⟩ := hc0
      cases hA'
      obtain ⟨Ab, nb, cb, hv, hrb⟩ := HPS.out.2 k vs[k] bss[k] (List.getElem?_eq_getElem hvl) (List.getElem?_eq_getElem hbl)
      have hcell := hx' k vs[k] (List.getElem?_eq_getElem hvl)
      rw [hv] at hcell
      have HRB := Lib.hid (hrb.below HB2.out)
      have HW := Lib.hid (write_live w.heap.size A _ bss[k] Ab nb cb wr HLV2.out HRB.out (fun h0 a ha e => by have := hrb.lt h0 (by decide) a ha; omega) (by
        rw [← List.length_append, ← flatten_take_succ bss k _ (List.getElem?_eq_getElem hbl)]
        exact Nat.le_trans (flatten_take_le bss (k + 1)) hm))
      rw [← flatten_take_succ bss k _ (List.getElem?_eq_getElem hbl)] at HW
      clear hx hx' hrb hv
      go_wp2_with (refine HW.out.mono ?_; rintro e wn ⟨rfl, A2, hl2, ht2, _⟩; have HLN := Lib.hid hl2; have HBN : Hid (Below w.heap.size w wn) := Lib.hid (HB2.out.trans (ht2.below (fun j _ hj => by rcases hj with rfl | ⟨a, ha, rfl⟩; exact Nat.le_refl _; exact Nat.le_of_lt (HLV2.out.own a ha).1) HB2.out.size)); clear hl2 ht2)
      case roundEnd =>
        exact ⟨⟨k + 1, by omega, by push_cast; rfl, A2, HLN.out, HBN.out⟩, by simp [intOf]; omega⟩
    · obtain rfl : k = np := by omega
      have HS := Lib.hid (hsum_live w.heap.size A _ wr HLV2.out (Nat.le_trans (flatten_take_le bss k) hm))
      rw [HL.out, List.take_length] at HS
      go_wp2_with (refine HS.out.mono ?_; rintro e wn ⟨A2, c2, rfl, hs2, hb2⟩)
      go_ret
      exact ⟨A2, c2, rfl, hs2.mono HB2.out.size, HB2.out.trans (hb2.mono HB2.out.size)⟩
theorem sumB_abc : sumB [97, 98, 99] = [186, 120, 22, 191, 143, 1, 207, 234, 65, 65, 64, 222, 93, 174, 34, 35, 176, 3, 97, 163, 150, 23, 122, 156, 180, 16, 255, 97, 242, 0, 21, 173] := by decide +kernel
end Go.Proofs.Ythpigmkdchnnoaa
