/- The contract of mac.pad. -/
import Derived.Test.YtdekfobcdmlelaaBytes
import Derived.Test.YtdekfobcdmlelaaMacP
namespace Go.Proofs.Ytdekfobcdmlelaa
open Go.RowKit
set_option linter.unusedVariables false
set_option linter.unusedSimpArgs false

theorem sum_one (Ap : Option Addr) (cp : Nat) (A : Option Addr) (n c : Nat) (bs : List UInt8) (w : World) (hp : Rd w 1 Ap 1 cp [.slice A n c]) (hr : Rd w 1 A n c (bvs bs)) (hm : bs.length ≤ 1099511627776) :
    Calls Try.prog 36 #[.slice Ap 1 cp] w fun e w' => ∃ A' c', e = .returned (.slice A' 32 c') ∧ Seg w' w.heap.size 1 A' 32 c' (bvs (sumB bs)) ∧ Below w.heap.size w w' := by
  have h := sum_any Ap 1 cp [.slice A n c] [bs] w hp (Parts.one hr) (by simpa using hm)
  rwa [show [bs].flatten = bs by simp] at h
theorem bits_xor_u8 (a b : UInt8) : bits .xor .u8 (a.toNat : Int) (b.toNat : Int) = ((a ^^^ b).toNat : Int) := by
  have ha := a.toNat_lt
  have hb := b.toNat_lt
  have ha' : a.toNat % 2 ^ 8 = a.toNat := Nat.mod_eq_of_lt ha
  have hb' : b.toNat % 2 ^ 8 = b.toNat := Nat.mod_eq_of_lt hb
  have hx : a.toNat ^^^ b.toNat < 2 ^ 8 := Nat.xor_lt_two_pow ha hb
  simp only [bits, BitVec.ofInt_natCast, BitVec.toNat_xor, BitVec.toNat_ofNat, show IntKind.u8.bits = 8 from rfl, ha', hb', UInt8.toNat_xor]
  rw [IntKind.wrap_u8]
  omega
/-- The first k bytes xored. -/
def xorTo (key : List UInt8) (x : UInt8) (k : Nat) : List UInt8 := (List.range 64).map fun i => if i < k then (keyK key).getD i 0 ^^^ x else (keyK key).getD i 0
theorem xorTo_zero (key : List UInt8) (x : UInt8) : keyK key ++ List.replicate (64 - (keyK key).length) 0 = xorTo key x 0 := by
  apply List.ext_getElem
  · have := keyK_length key; simp [xorTo]; omega
  · intro i h1 h2
    simp only [xorTo, List.getElem_map, List.getElem_range, Nat.not_lt_zero, if_false, List.getD_eq_getElem?_getD]
    by_cases hk : i < (keyK key).length
    · rw [List.getElem_append_left hk, List.getElem?_eq_getElem hk]; rfl
    · rw [List.getElem_append_right (by omega), List.getElem?_eq_none (by omega), List.getElem_replicate]; rfl
theorem xorTo_full (key : List UInt8) (x : UInt8) : xorTo key x 64 = padK key x := by
  simp only [xorTo, padK]
  refine List.map_congr_left (fun i hi => ?_)
  rw [if_pos (List.mem_range.1 hi)]
theorem xorTo_length (key : List UInt8) (x : UInt8) (k : Nat) : (xorTo key x k).length = 64 := by simp [xorTo]
theorem xorTo_get (key : List UInt8) (x : UInt8) (k : Nat) (hk : k < 64) : (xorTo key x k)[k]'(by rw [xorTo_length]; exact hk) = (keyK key).getD k 0 := by
  simp [xorTo]
theorem xorTo_set (key : List UInt8) (x : UInt8) (k : Nat) (hk : k < 64) : (xorTo key x k).set k ((keyK key).getD k 0 ^^^ x) = xorTo key x (k + 1) := by
  apply List.ext_getElem
  · simp [xorTo]
  · intro i h1 h2
    rw [List.getElem_set]
    by_cases hik : k = i
    · subst hik; rw [if_pos rfl]; simp [xorTo]
    · rw [if_neg hik]
      simp only [xorTo, List.getElem_map, List.getElem_range]
      by_cases h : i < k
      · rw [if_pos h, if_pos (by omega)]
      · rw [if_neg h, if_neg (by omega)]
theorem BRel.up {w W wr : World} {g : Nat} {bs : List UInt8} (h : BRel W g bs wr) (hb : Below w.heap.size w W) : BRel w g bs wr := ⟨h.row, hb.trans (h.below.mono hb.size), Nat.le_trans hb.size h.base⟩
set_option maxRecDepth 100000 in
set_option maxHeartbeats 2000000 in
theorem pad_any (A : Option Addr) (n c : Nat) (key : List UInt8) (x : UInt8) (w : World) (hr : Rd w 1 A n c (bvs key)) (hn : n ≤ 1000000) :
    Calls Try.prog 35 #[.slice A n c, .int .u8 (x.toNat : Int)] w fun e w' => ∃ g, e = .returned (.slice (some ⟨g, 0, none⟩) 64 64) ∧ BRel w g (padK key x) w' := by
  have hl : key.length = n := by have := hr.len; rw [bvs_length] at this; omega
  have HR := Lib.hid hr
  clear hr
  obtain ⟨xv, HXV⟩ : ∃ v : Int, Hid (v = (x.toNat : Int)) := ⟨_, Lib.hid rfl⟩
  rw [← HXV.out]
  by_cases hlong : 64 < n
  · have hlong' : (64 : Int) < n := by omega
    have HS := Lib.hid (sum_one (some ⟨w.heap.size, 0, none⟩) 1 A n c key (w.alloc (.cells #[.slice A n c] 22)) (by have := rd_lit w #[.slice A n c] 22 1 1 rfl (by simp [maxLen]); exact this) (HR.out.below ((Below.refl _ _).alloc (Nat.le_refl _) _)) (by omega))
    go_enter Try.func35, Try.ntmps35
    go_wp2_with fail
    refine HS.out.mono ?_
    rintro e w1 ⟨A1, c1, rfl, hs1, hb1⟩
    have HBW := Lib.hid (((Below.refl w.heap.size w).alloc (Nat.le_refl _) (.cells #[.slice A n c] 22)).trans (hb1.mono (by simp)))
    have HRK := Lib.hid hs1.rd
    rw [← keyK_of_long (by omega)] at HRK
    have HKL : Hid (32 = (keyK key).length) := Lib.hid (by rw [keyK_of_long (by omega), sumB_length])
    clear hs1 hb1 HS
    obtain ⟨zs, HZS⟩ : ∃ z, Hid (z = List.replicate 64 (0 : UInt8)) := ⟨_, Lib.hid rfl⟩
    have HMK : (Instr.makeSlice 22 (.int .i64 64) (.int .i64 64)).run Try.prog w1 = .ok (.slice (some ⟨w1.heap.size, 0, none⟩) 64 64) (w1.alloc (.cells (bvs zs).toArray 5)) := by rw [HZS.out]; exact make_bytes w1 64 (by omega)
    obtain ⟨w2, hrun, hbr⟩ : ∃ w2, (Builtin.copy_ #[22, 22] 3 #[.slice (some ⟨w1.heap.size, 0, none⟩) 64 64, .slice A1 32 c1]).run Try.prog (w1.alloc (.cells (bvs zs).toArray 5)) = .ok (goInt 32) w2 ∧ BRel w1 w1.heap.size (keyK key ++ List.replicate (64 - 32) 0) w2 := by
      rw [HZS.out]
      exact BRel.copy ⟨heap_alloc_new w1 _, (Below.refl _ _).alloc (Nat.le_refl _) _, Nat.le_refl _⟩ (HRK.out.below ((Below.refl _ _).alloc (Nat.le_refl _) _)) (by omega) _
    have HRUN := Lib.hid hrun
    rw [HKL.out] at hbr
    rw [xorTo_zero key x] at hbr
    have HBR0 := Lib.hid hbr
    go_wp2_with (at_builtin; refine Lib.wpList_copy_run _ rfl _ _ _ _ rfl _ _ rfl rfl HRUN.out ?_)
    obtain ⟨g, HG⟩ : ∃ g, Hid (g = w1.heap.size) := ⟨_, Lib.hid rfl⟩
    rw [← HG.out] at HBR0 ⊢
    go_loopw [19] (fun s19 wr => ∃ k : Nat, k ≤ 64 ∧ s19 = .int .i64 (k : Int) ∧ BRel w1 g (xorTo key x k) wr) (fun s19 _ => 64 - (intOf s19).toNat)
    case atStart => exact ⟨0, by omega, rfl, HBR0.out⟩
    case round =>
      obtain ⟨k, hk, rfl, hb⟩ := hrel
      have HBR := Lib.hid hb
      clear hb
      by_cases hlt : k < 64
      · obtain ⟨c1, f1⟩ := HBR.out.get (j := k) (by rw [xorTo_length]; exact hlt)
        rw [xorTo_get _ _ _ hlt] at c1
        obtain ⟨y, HY⟩ : ∃ y, Hid (y = (keyK key).getD k 0) := ⟨_, Lib.hid rfl⟩
        rw [← HY.out] at c1
        obtain ⟨yv, HYV⟩ : ∃ v : Int, Hid (v = (y.toNat : Int)) := ⟨_, Lib.hid rfl⟩
        obtain ⟨zv', HZV⟩ : ∃ v : Int, Hid (v = ((y ^^^ x).toNat : Int)) := ⟨_, Lib.hid rfl⟩
        rw [← HYV.out] at c1
        have fx : bits .xor .u8 yv xv = zv' := by rw [HYV.out, HXV.out, HZV.out]; exact bits_xor_u8 y x
        have HP := Lib.hid (HBR.out.put k (y ^^^ x))
        rw [← HZV.out, HY.out, xorTo_set _ _ _ hlt] at HP
        go_wp2_with fail
        case roundEnd => exact ⟨⟨k + 1, by omega, by push_cast; rfl, HP.out⟩, by simp only [intOf]; omega⟩
      · obtain rfl : k = 64 := by omega
        go_wp2_with fail
        go_ret
        refine ⟨g, rfl, ?_⟩
        have h := HBR.out
        rw [xorTo_full] at h
        exact h.up HBW.out
  · have hshort' : (n : Int) ≤ 64 := by omega
    have HBW := Lib.hid (Below.refl w.heap.size w)
    have HRK : Hid (Rd w 1 A n c (bvs (keyK key))) := by rw [keyK_of_short (by omega)]; exact HR
    have HKL : Hid (n = (keyK key).length) := Lib.hid (by rw [keyK_of_short (by omega)]; exact hl.symm)
    go_enter Try.func35, Try.ntmps35
    obtain ⟨zs, HZS⟩ : ∃ z, Hid (z = List.replicate 64 (0 : UInt8)) := ⟨_, Lib.hid rfl⟩
    have HMK : (Instr.makeSlice 22 (.int .i64 64) (.int .i64 64)).run Try.prog w = .ok (.slice (some ⟨w.heap.size, 0, none⟩) 64 64) (w.alloc (.cells (bvs zs).toArray 5)) := by rw [HZS.out]; exact make_bytes w 64 (by omega)
    obtain ⟨w2, hrun, hbr⟩ : ∃ w2, (Builtin.copy_ #[22, 22] 3 #[.slice (some ⟨w.heap.size, 0, none⟩) 64 64, .slice A n c]).run Try.prog (w.alloc (.cells (bvs zs).toArray 5)) = .ok (goInt n) w2 ∧ BRel w w.heap.size (keyK key ++ List.replicate (64 - n) 0) w2 := by
      rw [HZS.out]
      exact BRel.copy ⟨heap_alloc_new w _, (Below.refl _ _).alloc (Nat.le_refl _) _, Nat.le_refl _⟩ (HRK.out.below ((Below.refl _ _).alloc (Nat.le_refl _) _)) (by omega) _
    have HRUN := Lib.hid hrun
    rw [HKL.out] at hbr
    rw [xorTo_zero key x] at hbr
    have HBR0 := Lib.hid hbr
    go_wp2_with (at_builtin; refine Lib.wpList_copy_run _ rfl _ _ _ _ rfl _ _ rfl rfl HRUN.out ?_)
    obtain ⟨g, HG⟩ : ∃ g, Hid (g = w.heap.size) := ⟨_, Lib.hid rfl⟩
    rw [← HG.out] at HBR0 ⊢
    go_loopw [19] (fun s19 wr => ∃ k : Nat, k ≤ 64 ∧ s19 = .int .i64 (k : Int) ∧ BRel w g (xorTo key x k) wr) (fun s19 _ => 64 - (intOf s19).toNat)
    case atStart => exact ⟨0, by omega, rfl, HBR0.out⟩
    case round =>
      obtain ⟨k, hk, rfl, hb⟩ := hrel
      have HBR := Lib.hid hb
      clear hb
      by_cases hlt : k < 64
      · obtain ⟨c1, f1⟩ := HBR.out.get (j := k) (by rw [xorTo_length]; exact hlt)
        rw [xorTo_get _ _ _ hlt] at c1
        obtain ⟨y, HY⟩ : ∃ y, Hid (y = (keyK key).getD k 0) := ⟨_, Lib.hid rfl⟩
        rw [← HY.out] at c1
        obtain ⟨yv, HYV⟩ : ∃ v : Int, Hid (v = (y.toNat : Int)) := ⟨_, Lib.hid rfl⟩
        obtain ⟨zv', HZV⟩ : ∃ v : Int, Hid (v = ((y ^^^ x).toNat : Int)) := ⟨_, Lib.hid rfl⟩
        rw [← HYV.out] at c1
        have fx : bits .xor .u8 yv xv = zv' := by rw [HYV.out, HXV.out, HZV.out]; exact bits_xor_u8 y x
        have HP := Lib.hid (HBR.out.put k (y ^^^ x))
        rw [← HZV.out, HY.out, xorTo_set _ _ _ hlt] at HP
        go_wp2_with fail
        case roundEnd => exact ⟨⟨k + 1, by omega, by push_cast; rfl, HP.out⟩, by simp only [intOf]; omega⟩
      · obtain rfl : k = 64 := by omega
        go_wp2_with fail
        go_ret
        refine ⟨g, rfl, ?_⟩
        have h := HBR.out
        rw [xorTo_full] at h
        exact h.up HBW.out
end Go.Proofs.Ytdekfobcdmlelaa
