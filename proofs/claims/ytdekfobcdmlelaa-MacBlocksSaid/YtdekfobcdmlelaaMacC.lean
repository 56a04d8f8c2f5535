/- The contract of mac.Equal. -/
import Derived.Test.YtdekfobcdmlelaaMacB
namespace Go.Proofs.Ytdekfobcdmlelaa
open Go.RowKit
set_option linter.unusedVariables false
set_option linter.unusedSimpArgs false

theorem bits_or_u8 (a b : UInt8) : bits .or .u8 (a.toNat : Int) (b.toNat : Int) = ((a ||| b).toNat : Int) := by
  have ha := a.toNat_lt
  have hb := b.toNat_lt
  have h := (bits_nat .u8 8 (by decide) (fun n h0 h1 => by rw [IntKind.wrap_u8]; omega) a.toNat b.toNat ha hb).2
  rw [h, UInt8.toNat_or]
theorem or_zero (x y : UInt8) : x ||| y = 0 ↔ x = 0 ∧ y = 0 := by
  constructor
  · intro h
    have : ∀ x y : UInt8, x ||| y = 0 → x = 0 ∧ y = 0 := by
      intro x y h
      have h1 : x.toNat ||| y.toNat = 0 := by rw [← UInt8.toNat_or, h]; rfl
      have h2 := Nat.or_eq_zero_iff.1 h1
      exact ⟨UInt8.toNat_inj.1 h2.1, UInt8.toNat_inj.1 h2.2⟩
    exact this x y h
  · rintro ⟨rfl, rfl⟩; rfl
theorem xor_zero (x y : UInt8) : x ^^^ y = 0 ↔ x = y := by
  constructor
  · intro h
    have h1 := congrArg (fun z => z ^^^ y) h
    simpa [UInt8.xor_assoc] using h1
  · rintro rfl; simp
set_option maxRecDepth 100000 in
set_option maxHeartbeats 1000000 in
theorem equal_any (A : Option Addr) (n c : Nat) (xs : List UInt8) (B : Option Addr) (m d : Nat) (ys : List UInt8) (w : World) (hx : Rd w 1 A n c (bvs xs)) (hy : Rd w 1 B m d (bvs ys)) :
    Calls Try.prog 20 #[.slice A n c, .slice B m d] w fun e w' => e = .returned (.bool (decide (xs = ys))) ∧ Below w.heap.size w w' := by
  have hlx : xs.length = n := by have := hx.len; rw [bvs_length] at this; omega
  have hly : ys.length = m := by have := hy.len; rw [bvs_length] at this; omega
  have hmx : n < 9223372036854775808 := by have := hx.cap; have := hx.max; simp only [maxLen] at this; omega
  have HX := Lib.hid hx
  have HY := Lib.hid hy
  clear hx hy
  go_enter Try.func20, Try.ntmps20
  by_cases hnm : n = m
  · subst hnm
    go_wp2_with fail
    go_loopw [5, 14] (fun s5 s14 wr => ∃ (k : Nat) (x : UInt8), k ≤ n ∧ s5 = .int .u8 (x.toNat : Int) ∧ s14 = .int .i64 (k : Int) ∧ (x = 0 ↔ xs.take k = ys.take k) ∧ Below w.heap.size w wr) (fun _ s14 _ => n - (intOf s14).toNat)
    case atStart => exact ⟨0, 0, by omega, rfl, rfl, by simp, Below.refl _ _⟩
    case round =>
     obtain ⟨k, x, hk, rfl, rfl, hx0, hb⟩ := hrel
     have HX0 := Lib.hid hx0
     have HB := Lib.hid hb
     clear hx0 hb
     by_cases hlt : k < n
     · obtain ⟨ga, oa, rfl, hxa⟩ := HX.out.at_ (by omega)
       obtain ⟨gb, ob, rfl, hyb⟩ := HY.out.at_ (by omega)
       obtain ⟨a, HAe⟩ : ∃ a, Hid (a = xs[k]) := ⟨_, Lib.hid rfl⟩
       obtain ⟨b, HBe⟩ : ∃ a, Hid (a = ys[k]) := ⟨_, Lib.hid rfl⟩
       obtain ⟨av, HAV⟩ : ∃ v : Int, Hid (v = (a.toNat : Int)) := ⟨_, Lib.hid rfl⟩
       obtain ⟨bv', HBV⟩ : ∃ v : Int, Hid (v = (b.toNat : Int)) := ⟨_, Lib.hid rfl⟩
       obtain ⟨xv, HXV⟩ : ∃ v : Int, Hid (v = (x.toNat : Int)) := ⟨_, Lib.hid rfl⟩
       obtain ⟨yv, HYV⟩ : ∃ v : Int, Hid (v = ((a ^^^ b).toNat : Int)) := ⟨_, Lib.hid rfl⟩
       obtain ⟨zv', HZV⟩ : ∃ v : Int, Hid (v = ((x ||| (a ^^^ b)).toNat : Int)) := ⟨_, Lib.hid rfl⟩
       have f1 : bits .xor .u8 av bv' = yv := by rw [HAV.out, HBV.out, HYV.out]; exact bits_xor_u8 a b
       have f2 : bits .or .u8 xv yv = zv' := by rw [HXV.out, HYV.out, HZV.out]; exact bits_or_u8 x (a ^^^ b)
       have HCA : Hid (∀ w', Below wr.heap.size wr w' → w'.cell? ⟨ga, oa + k, none⟩ = some (.int .u8 av)) := Lib.hid (fun w' h => by
         have h1 := hxa k _ (bvs_get xs k (by omega))
         have h2 := HB.out.trans (h.mono HB.out.size)
         rw [(h2.cell (World.block_lt_of_cell? w _ h1)).trans h1, HAV.out, HAe.out]; rfl)
       have HCB : Hid (∀ w', Below wr.heap.size wr w' → w'.cell? ⟨gb, ob + k, none⟩ = some (.int .u8 bv')) := Lib.hid (fun w' h => by
         have h1 := hyb k _ (bvs_get ys k (by omega))
         have h2 := HB.out.trans (h.mono HB.out.size)
         rw [(h2.cell (World.block_lt_of_cell? w _ h1)).trans h1, HBV.out, HBe.out]; rfl)
       have HREL : Hid (x ||| (a ^^^ b) = 0 ↔ xs.take (k + 1) = ys.take (k + 1)) := Lib.hid (by
         rw [or_zero, xor_zero, HX0.out, List.take_add_one, List.take_add_one, List.getElem?_eq_getElem (show k < xs.length by omega), List.getElem?_eq_getElem (show k < ys.length by omega), HAe.out, HBe.out]
         constructor
         · rintro ⟨h1, h2⟩; rw [h1, h2]
         · intro h
           have h3 := List.append_inj h (by simp; omega)
           exact ⟨h3.1, by simpa using h3.2⟩)
       rw [← HXV.out]
       clear hxa hyb
       go_wp2_with fail
       refine wp_region_held_drew (S := fun w' => Below wr.heap.size wr w') (by kernel_rfl) ((Below.refl _ _).drew) (fun hHeld => ?_)
       refine held_yes (i := 0) (v := ?_) rfl (by kernel_rfl) (by kernel_rfl) (by kernel_rfl) (fun _ _ _ h => h) (by rfl) (fun w hSw => ?_) hHeld ?_
       rotate_left
       · go_simp; try with_reducible rfl
       simp only [List.setIfInBounds_toArray, List.set_cons_zero, List.set_cons_succ]
       refine held_yes (i := 1) (v := ?_) rfl (by kernel_rfl) (by kernel_rfl) (by kernel_rfl) (fun _ _ _ h => h) (by rfl) (fun w hSw => ?_) hHeld ?_
       rotate_left
       · go_simp; try with_reducible rfl
       simp only [List.setIfInBounds_toArray, List.set_cons_zero, List.set_cons_succ]
       refine held_yes (i := 2) (v := ?_) rfl (by kernel_rfl) (by kernel_rfl) (by kernel_rfl) (fun _ _ _ h => h) (by rfl) (fun w hSw => ?_) hHeld ?_
       rotate_left
       · go_simp; try with_reducible rfl
       simp only [List.setIfInBounds_toArray, List.set_cons_zero, List.set_cons_succ]
       refine held_yes (i := 3) (v := ?_) rfl (by kernel_rfl) (by kernel_rfl) (by kernel_rfl) (fun _ _ _ h => h) (by rfl) (fun w hSw => ?_) hHeld ?_
       rotate_left
       · go_simp; try with_reducible rfl
       simp only [List.setIfInBounds_toArray, List.set_cons_zero, List.set_cons_succ]
       refine held_yes (i := 4) (v := ?_) rfl (by kernel_rfl) (by kernel_rfl) (by kernel_rfl) (fun _ _ _ h => h) (by rfl) (fun w hSw => ?_) hHeld ?_
       rotate_left
       · have ca := HCA.out w hSw; go_simp; try with_reducible rfl
       simp only [List.setIfInBounds_toArray, List.set_cons_zero, List.set_cons_succ]
       refine held_yes (i := 5) (v := ?_) rfl (by kernel_rfl) (by kernel_rfl) (by kernel_rfl) (fun _ _ _ h => h) (by rfl) (fun w hSw => ?_) hHeld ?_
       rotate_left
       · have ca := HCA.out w hSw; go_simp; try with_reducible rfl
       simp only [List.setIfInBounds_toArray, List.set_cons_zero, List.set_cons_succ]
       refine held_yes (i := 6) (v := ?_) rfl (by kernel_rfl) (by kernel_rfl) (by kernel_rfl) (fun _ _ _ h => h) (by rfl) (fun w hSw => ?_) hHeld ?_
       rotate_left
       · go_simp; try with_reducible rfl
       simp only [List.setIfInBounds_toArray, List.set_cons_zero, List.set_cons_succ]
       refine held_yes (i := 7) (v := ?_) rfl (by kernel_rfl) (by kernel_rfl) (by kernel_rfl) (fun _ _ _ h => h) (by rfl) (fun w hSw => ?_) hHeld ?_
       rotate_left
       · go_simp; try with_reducible rfl
       simp only [List.setIfInBounds_toArray, List.set_cons_zero, List.set_cons_succ]
       refine held_yes (i := 8) (v := ?_) rfl (by kernel_rfl) (by kernel_rfl) (by kernel_rfl) (fun _ _ _ h => h) (by rfl) (fun w hSw => ?_) hHeld ?_
       rotate_left
       · have cb := HCB.out w hSw; go_simp; try with_reducible rfl
       simp only [List.setIfInBounds_toArray, List.set_cons_zero, List.set_cons_succ]
       refine held_yes (i := 9) (v := ?_) rfl (by kernel_rfl) (by kernel_rfl) (by kernel_rfl) (fun _ _ _ h => h) (by rfl) (fun w hSw => ?_) hHeld ?_
       rotate_left
       · go_simp; try with_reducible rfl
       simp only [List.setIfInBounds_toArray, List.set_cons_zero, List.set_cons_succ]
       refine held_yes (i := 10) (v := ?_) rfl (by kernel_rfl) (by kernel_rfl) (by kernel_rfl) (fun _ _ _ h => h) (by rfl) (fun w hSw => ?_) hHeld ?_
       rotate_left
       · go_simp; try with_reducible rfl
       simp only [List.setIfInBounds_toArray, List.set_cons_zero, List.set_cons_succ]
       refine held_yes (i := 11) (v := ?_) rfl (by kernel_rfl) (by kernel_rfl) (by kernel_rfl) (fun _ _ _ h => h) (by rfl) (fun w hSw => ?_) hHeld ?_
       rotate_left
       · go_simp; try with_reducible rfl
       simp only [List.setIfInBounds_toArray, List.set_cons_zero, List.set_cons_succ]
       refine wpAnyH_done (by kernel_rfl) ?_ _
       go_wp2_with fail
       case roundEnd =>
         exact ⟨⟨k + 1, x ||| (a ^^^ b), by omega, by rw [HZV.out], by push_cast; rfl, HREL.out, HB.out.trans (((Below.refl wr.heap.size wr).drew).mono HB.out.size)⟩, by simp only [intOf]; omega⟩
     · obtain rfl : k = n := by omega
       have hx0 : (x = 0 ↔ xs = ys) := by have h := HX0.out; rwa [List.take_of_length_le (by omega), List.take_of_length_le (by omega)] at h
       have hdec : decide (((x.toNat : Nat) : Int) = 0) = decide (xs = ys) := by
         rw [decide_eq_decide, ← hx0]
         constructor
         · intro h; exact UInt8.toNat_inj.1 (by simpa using h)
         · rintro rfl; rfl
       have HD := Lib.hid hdec
       clear hx0 hdec
       go_wp2_with fail
       go_ret
       refine ⟨?_, HB.out⟩
       rw [← HD.out]; rfl
  · have hnm' : ¬ (n : Int) = (m : Int) := by omega
    go_wp2_with fail
    go_ret
    refine ⟨?_, Below.refl _ _⟩
    have : ¬ xs = ys := fun h => hnm (by rw [← hlx, ← hly, h])
    simp [this]
end Go.Proofs.Ytdekfobcdmlelaa
