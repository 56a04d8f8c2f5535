/- The contract of Hash.Write. -/
import Derived.Test.YthpigmkdchnnoaaSha4
namespace Go.Proofs.Ythpigmkdchnnoaa
open Go.RowKit
set_option linter.unusedVariables false
set_option linter.unusedSimpArgs false

theorem hCells_8 {st : List Nat} (h : st.length = 8) (r r' : Value) (n : Int) : (hCells st r n).setIfInBounds 8 r' = hCells st r' n := by
  obtain ⟨a, b, c, d, e, f, g, i, rfl⟩ := eight h; rfl
theorem hCells_9 {st : List Nat} (h : st.length = 8) (r : Value) (n m : Int) : (hCells st r n).setIfInBounds 9 (.int .i64 m) = hCells st r m := by
  obtain ⟨a, b, c, d, e, f, g, i, rfl⟩ := eight h; rfl
theorem hCells_get8 {st : List Nat} (h : st.length = 8) (r : Value) (n : Int) : (hCells st r n)[8]? = some r := by
  obtain ⟨a, b, c, d, e, f, g, i, rfl⟩ := eight h; rfl
theorem hCells_get9 {st : List Nat} (h : st.length = 8) (r : Value) (n : Int) : (hCells st r n)[9]? = some (.int .i64 n) := by
  obtain ⟨a, b, c, d, e, f, g, i, rfl⟩ := eight h; rfl
namespace Hsh
variable {w : World} {base hb k : Nat} {A : Option Addr} {n c : Nat} {cnt : Int} {msg : List UInt8}
theorem ne (h : Hsh w base hb k A n c cnt msg) : ∀ a, A = some a → a.block ≠ hb := fun a ha e => by have := h.seg.base_le a ha; omega
theorem rest (h : Hsh w base hb k A n c cnt msg) : w.cell? ⟨hb, 8, none⟩ = some (.slice A n c) := by
  rw [cell_of_row w _ _ _ _ _ h.row]; exact hCells_get8 (stN_ok msg k).1 _ _
theorem count (h : Hsh w base hb k A n c cnt msg) : w.cell? ⟨hb, 9, none⟩ = some (.int .i64 cnt) := by
  rw [cell_of_row w _ _ _ _ _ h.row]; exact hCells_get9 (stN_ok msg k).1 _ _
theorem thaw (h : Hsh w base hb k A n c cnt msg) (j : Nat) : w.frozen? ⟨hb, j, none⟩ = false := by simp [World.frozen?, h.row]
theorem lt (h : Hsh w base hb k A n c cnt msg) : hb < w.heap.size := (Array.getElem?_eq_some_iff.1 h.row).1
theorem putCount (h : Hsh w base hb k A n c cnt msg) (m : Int) : Hsh (w.setCell ⟨hb, 9, none⟩ (.int .i64 m)) base hb k A n c m msg := by
  refine ⟨?_, h.seg.touch (Touch.setCell w _ _ (S := fun i => i = hb) rfl) (fun a ha => h.ne a ha), h.base, h.le⟩
  rw [← hCells_9 (stN_ok msg k).1 _ cnt m]
  exact heap_setCell_same w _ _ _ _ _ h.row
theorem drew (h : Hsh w base hb k A n c cnt msg) : Hsh w.drew base hb k A n c cnt msg := ⟨h.row, h.seg.below ((Below.refl _ _).drew), h.base, h.le⟩
theorem length (h : Hsh w base hb k A n c cnt msg) : n = msg.length - 64 * k := by
  have := h.seg.len; rw [bvs_length, List.length_drop] at this; omega
theorem appended (h : Hsh w base hb k A n c cnt msg) {bs : List UInt8} {A' : Option Addr} {n' c' : Nat} {w' : World} (hs : Seg w' (hb + 1) 1 A' n' c' (bvs (msg.drop (64 * k)) ++ bvs bs)) (hg : w.grownBy w' (A.map (·.block))) :
    w'.cell? ⟨hb, 8, none⟩ = some (.slice A n c) ∧ w'.frozen? ⟨hb, 8, none⟩ = false ∧ Hsh (w'.setCell ⟨hb, 8, none⟩ (.slice A' n' c')) base hb k A' n' c' cnt (msg ++ bs) := by
  have hrow : w'.heap[hb]? = w.heap[hb]? := hg.block hb h.lt (fun e => by
    cases A with
    | none => simp at e
    | some a => simp at e; exact h.ne a rfl e.symm)
  have hr2 := hrow.trans h.row
  refine ⟨(World.cell?_of_block (w := w) (a := ⟨hb, 8, none⟩) hrow).trans h.rest, by simp [World.frozen?, hr2], ?_, ?_, h.base, by rw [List.length_append]; have := h.le; omega⟩
  · rw [stN_append msg bs k h.le, ← hCells_8 (stN_ok msg k).1 (.slice A n c) _ cnt]
    exact heap_setCell_same w' _ _ _ _ _ hr2
  · have he : bvs (msg.drop (64 * k)) ++ bvs bs = bvs ((msg ++ bs).drop (64 * k)) := by
      rw [List.drop_append_of_le_length h.le]; simp [bvs]
    rw [he] at hs
    exact hs.touch (Touch.setCell w' ⟨hb, 8, none⟩ _ (S := fun i => i = hb) rfl) (fun a ha e => by have := hs.base_le a ha; omega)
theorem range (h : Hsh w base hb k A n c cnt msg) : w.rangeAt hb 0 (sArr (stN msg k)).toList := by
  intro j v hv
  change ((stN msg k).map u32)[j]? = some v at hv
  rw [cell_of_row w _ _ _ _ _ h.row, Nat.zero_add]
  simp only [hCells, List.getElem?_toArray]
  rw [List.getElem?_append_left ((List.getElem?_eq_some_iff.1 hv).1)]
  exact hv
theorem step (h : Hsh w base hb k A n c cnt msg) {w1 : World} (hb1 : Below w.heap.size w w1) :
    w1.there hb 0 8 ∧ (w1.setCells hb 0 (sArr (stN msg (k + 1))).toList).cell? ⟨hb, 8, none⟩ = some (.slice A n c) ∧ (w1.setCells hb 0 (sArr (stN msg (k + 1))).toList).frozen? ⟨hb, 8, none⟩ = false ∧
    ∀ g o, A = some ⟨g, o, none⟩ → 64 ≤ n → Hsh ((w1.setCells hb 0 (sArr (stN msg (k + 1))).toList).setCell ⟨hb, 8, none⟩ (.slice (if c = 64 then some ⟨g, o, none⟩ else some ⟨g, o + 64, none⟩) (n - 64) (c - 64))) base hb (k + 1) (if c = 64 then some ⟨g, o, none⟩ else some ⟨g, o + 64, none⟩) (n - 64) (c - 64) cnt msg := by
  have hrow : w1.heap[hb]? = some (.cells (hCells (stN msg k) (.slice A n c) cnt) 105 (0, 0)) := (hb1.block hb h.lt).trans h.row
  have hr2 : (w1.setCells hb 0 (sArr (stN msg (k + 1))).toList).heap[hb]? = some (.cells (hCells (stN msg (k + 1)) (.slice A n c) cnt) 105 (0, 0)) :=
    row_setCells hb _ ((stN msg (k + 1)).map u32) [] ((stN msg k).map u32) [.slice A n c, .int .i64 cnt] w1 (by simp [(stN_ok msg k).1, (stN_ok msg (k + 1)).1]) hrow
  refine ⟨fun j hj => ⟨?_, by simp [World.frozen?, hrow]⟩, ?_, by simp [World.frozen?, hr2], fun g o hA hn => ⟨?_, ?_, h.base, ?_⟩⟩
  · rw [cell_of_row w1 _ _ _ _ _ hrow, Array.getElem?_eq_getElem (by simp [hCells, (stN_ok msg k).1]; omega)]; rfl
  · rw [cell_of_row _ _ _ _ _ _ hr2]; exact hCells_get8 (stN_ok msg (k + 1)).1 _ _
  · rw [← hCells_8 (stN_ok msg (k + 1)).1 (.slice A n c) _ cnt]
    exact heap_setCell_same _ _ _ _ _ _ hr2
  · have h1 := h.seg.below hb1
    rw [hA] at h1
    have h2 := (h1.from hn).touch ((Touch.setCells (S := fun i => i = hb) hb rfl (sArr (stN msg (k + 1))).toList 0 w1).trans (Touch.setCell _ ⟨hb, 8, none⟩ (.slice (if c = 64 then some ⟨g, o, none⟩ else some ⟨g, o + 64, none⟩) (n - 64) (c - 64)) (S := fun i => i = hb) rfl) (fun _ _ e => e)) (fun a ha e => by
      have := h1.base_le ⟨g, o, none⟩ rfl
      split at ha <;> cases ha <;> simp at e this <;> omega)
    have he : (bvs (msg.drop (64 * k))).drop 64 = bvs (msg.drop (64 * (k + 1))) := by
      simp [bvs, List.drop_drop, Nat.mul_add]
    rwa [he] at h2
  · have := h.length; omega
end Hsh
theorem Rd.touch0 {w w' : World} {S : Nat → Prop} {size : Nat} {A : Option Addr} {n c : Nat} {xs : List Value} (h : Rd w size A n c xs) (ht : Touch S w w') (hS : 0 < n → ∀ a, A = some a → ¬ S a.block) : Rd w' size A n c xs := by
  by_cases hn : n = 0
  · exact ⟨h.len, h.cap, h.max, h.nil, .inl hn⟩
  · exact h.touch ht (hS (by omega))
/-- The blocks that a Write may turn. -/
def Own (hb : Nat) (A : Option Addr) (i : Nat) : Prop := i = hb ∨ ∃ a, A = some a ∧ a.block = i
def restLen (w : World) (hb : Nat) : Nat := match w.cell? ⟨hb, 8, none⟩ with | some (.slice _ n _) => n | _ => 0
/-- At the head of the loop. -/
def WRel (w : World) (base hb : Nat) (A : Option Addr) (cnt : Int) (all : List UInt8) (wr : World) : Prop :=
  ∃ k A' n' c', Hsh wr base hb k A' n' c' cnt all ∧ Touch (Own hb A) w wr ∧ ∀ a, A' = some a → (∃ a0, A = some a0 ∧ a0.block = a.block) ∨ w.heap.size ≤ a.block

set_option maxRecDepth 100000 in
set_option maxHeartbeats 1000000 in
theorem write_any (base hb k : Nat) (A : Option Addr) (n c : Nat) (cnt : Int) (msg bs : List UInt8) (Ab : Option Addr) (nb cb : Nat) (w : World) (hh : Hsh w base hb k A n c cnt msg) (hr : Rd w 1 Ab nb cb (bvs bs)) (hne : 0 < nb → ∀ a, Ab = some a → a.block ≠ hb)
    (hlen : msg.length + bs.length ≤ 1099511627776) (hc0 : 0 ≤ cnt) (hc1 : cnt ≤ 1099511627776) :
    Calls Try.prog 46 #[.pointer (some ⟨hb, 0, none⟩), .slice Ab nb cb] w fun e w' => e = .returned (.tuple #[]) ∧ WRel w base hb A (cnt + bs.length) (msg ++ bs) w' ∧ restLen w' hb < 64 := by
  have hl : bs.length = nb := by have := hr.len; rw [bvs_length] at this; omega
  have h8 := hh.rest
  have h9 := hh.count
  have f8 := hh.thaw 8
  have f9 := hh.thaw 9
  have HH := Lib.hid hh
  have HP := Lib.hid (hh.putCount (cnt + nb))
  have HR := Lib.hid hr
  have HL := Lib.hid hl
  clear hh hr hl
  have hwc : wrap64 (cnt + (nb : Int)) = cnt + nb := by have := HL.out; unfold wrap64; omega
  have HRB : Hid (Rd (w.setCell ⟨hb, 9, none⟩ (.int .i64 (cnt + nb))) 1 Ab nb cb (bvs bs)) := Lib.hid (HR.out.touch0 (Touch.setCell w _ _ (S := fun i => i = hb) rfl) (fun h0 a ha e => hne h0 a ha e))
  go_enter Try.func46, Try.ntmps46
  go_wp2_with (at_builtin; refine wpList_append_at rfl _ _ _ _ rfl ei_u8 rfl HP.out.seg rfl (HRB.out.src Try.underlying32 (bvs_one _)) (by have := HP.out.length; have := HL.out; simp only [maxLen]; omega) (by have := HP.out.length; have := HL.out; omega) (by have := HP.out.lt; omega) ?_; intro A' c' w' hs hg hat; obtain ⟨q8, qf, qh⟩ := HP.out.appended hs hg; have HQ := Lib.hid qh; have HG := Lib.hid hg; clear qh hs hg)
  have HTS : Hid (Touch (Own hb A) w (w'.setCell ⟨hb, 8, none⟩ (.slice A' (n + nb) c'))) := Lib.hid (((Touch.setCell w ⟨hb, 9, none⟩ _ (S := Own hb A) (.inl rfl)).trans (Touch.of_grown (S := Own hb A) HG.out (fun r hr _ => by
      cases A with
      | none => cases hr
      | some a => cases hr; exact .inr ⟨a, rfl, rfl⟩)) (fun _ _ e => e)).trans (Touch.setCell w' ⟨hb, 8, none⟩ _ (S := Own hb A) (.inl rfl)) (fun _ _ e => e))
  have HAT : Hid (∀ a, A' = some a → (∃ a0, A = some a0 ∧ a0.block = a.block) ∨ w.heap.size ≤ a.block) := Lib.hid (fun a ha => (hat a ha).imp (fun ⟨a0, h0, h1⟩ => ⟨a0, h0, h1.symm⟩) (fun h => by simpa using h))
  clear hat
  go_loopw [] (fun wr => WRel w base hb A (cnt + nb) (msg ++ bs) wr) (fun wr => restLen wr hb)
  case atStart => exact ⟨_, _, _, _, HQ.out, HTS.out, HAT.out⟩
  case round =>
    obtain ⟨k2, A2, n2, c2, hh2, ht2, hat2⟩ := hrel
    have r8 := hh2.rest
    have HH2 := Lib.hid hh2
    have HT2 := Lib.hid ht2
    have HAT2 := Lib.hid hat2
    clear hh2 ht2 hat2
    by_cases hlt : 64 ≤ n2
    · obtain ⟨g, o, rfl, _⟩ := HH2.out.seg.rd.at_ (by omega)
      have l64 : (64 : Int) ≤ n2 := by omega
      have HI8 : ∀ n, n = 8 → (Try.prog.info? 103).map (·.size) = some n := fun n hn => by subst hn; kernel_rfl
      go_wp2_with fail
      obtain ⟨so, HSO⟩ : ∃ so, Hid (so = sArr (stN (msg ++ bs) k2)) := ⟨_, Lib.hid rfl⟩
      obtain ⟨sn, HSN⟩ : ∃ sn, Hid (sn = sArr (stN (msg ++ bs) (k2 + 1))) := ⟨_, Lib.hid rfl⟩
      have HCC : Hid (Calls Try.prog 53 #[.agg so, .slice (some ⟨g, o, none⟩) n2 c2] wr.drew fun e w' => e = .returned (.agg sn) ∧ Below wr.drew.heap.size wr.drew w') := by
        rw [HSO.out, HSN.out]
        exact Lib.hid (compress_any _ n2 c2 ((msg ++ bs).drop (64 * k2)) (stN (msg ++ bs) k2) (stN_ok _ _) _ HH2.out.drew.seg.rd hlt)
      have HSR : Hid (wr.drew.rangeAt hb 0 so.toList) := by rw [HSO.out]; exact Lib.hid HH2.out.drew.range
      have HSO8 : Hid (so.toList.length = 8) := by rw [HSO.out]; exact Lib.hid (by simp [sArr, (stN_ok (msg ++ bs) k2).1])
      have HSN8 : Hid (sn.size = 8) := by rw [HSN.out]; exact Lib.hid (by simp [sArr, (stN_ok (msg ++ bs) (k2 + 1)).1])
      have HSNO : Hid (sn.all (·.oneCell') = true) := by rw [HSN.out]; exact Lib.hid (u32_cells _)
      refine wp_region_held_drew (S := fun _ => True) (by kernel_rfl) trivial (fun hHeld => ?_)
      refine held_yes (i := 0) (v := ?_) rfl (by kernel_rfl) (by kernel_rfl) (by kernel_rfl) (fun _ _ _ h => h) (by rfl) (fun w hSw => ?_) hHeld ?_
      rotate_left
      · go_simp; try with_reducible rfl
      simp only [List.setIfInBounds_toArray, List.set_cons_zero, List.set_cons_succ]
      refine held_yes (i := 1) (v := ?_) rfl (by kernel_rfl) (by kernel_rfl) (by kernel_rfl) (fun _ _ _ h => h) (by rfl) (fun w hSw => ?_) hHeld ?_
      rotate_left
      · go_simp; try with_reducible rfl
      simp only [List.setIfInBounds_toArray, List.set_cons_zero, List.set_cons_succ]
      refine held_yes (i := 2) (v := ?_) rfl (by kernel_rfl) (by kernel_rfl) (by kernel_rfl) (fun _ _ _ h => h) (by rfl) (fun w hSw => ?_) hHeld ?_
      rotate_left
      · go_simp; try with_reducible rfl
      simp only [List.setIfInBounds_toArray, List.set_cons_zero, List.set_cons_succ]
      refine held_yes (i := 3) (v := ?_) rfl (by kernel_rfl) (by kernel_rfl) (by kernel_rfl) (fun _ _ _ h => h) (by rfl) (fun w hSw => ?_) hHeld ?_
      rotate_left
      · go_simp; try with_reducible rfl
      simp only [List.setIfInBounds_toArray, List.set_cons_zero, List.set_cons_succ]
      refine held_yes (i := 5) (v := ?_) rfl (by kernel_rfl) (by kernel_rfl) (by kernel_rfl) (fun _ _ _ h => h) (by rfl) (fun w hSw => ?_) hHeld ?_
      rotate_left
      · go_simp; try with_reducible rfl
      simp only [List.setIfInBounds_toArray, List.set_cons_zero, List.set_cons_succ]
      refine held_yes (i := 6) (v := ?_) rfl (by kernel_rfl) (by kernel_rfl) (by kernel_rfl) (fun _ _ _ h => h) (by rfl) (fun w hSw => ?_) hHeld ?_
      rotate_left
      · go_simp; try with_reducible rfl
      simp only [List.setIfInBounds_toArray, List.set_cons_zero, List.set_cons_succ]
      refine held_yes (i := 7) (v := ?_) rfl (by kernel_rfl) (by kernel_rfl) (by kernel_rfl) (fun _ _ _ h => h) (by rfl) (fun w hSw => ?_) hHeld ?_
      rotate_left
      · go_simp; try with_reducible rfl
      simp only [List.setIfInBounds_toArray, List.set_cons_zero, List.set_cons_succ]
      refine wpAnyH_ready (rs := [4, 8]) (by kernel_rfl) (by simp) (AllReadyH.cons rfl (fun K hK => ?_) (AllReadyH.cons rfl (fun K hK => ?_) AllReadyH.nil))
      · skip
        rw [if_pos (by rfl)]
        refine wp_load_mid 103 _ rfl hb 0 (by rfl) so.toList _ HSR.out Try.underlying103 rfl (HI8 _ HSO8.out) ?_
        refine hK.out _ _ trivial (fun hHeld => ?_)
        clear hK K
        try simp only [Act.put, List.setIfInBounds_toArray, List.set_cons_zero, List.set_cons_succ]
        refine held_only (i := 8) (by kernel_rfl) rfl (fun K hK => ?_)
        rw [if_pos (by rfl)]
        go_wp2_with fail
        refine hK.out _ _ trivial (fun hHeld => ?_)
        clear hK K
        try simp only [Act.put, List.setIfInBounds_toArray, List.set_cons_zero, List.set_cons_succ]
        refine held_only (i := 9) (by kernel_rfl) rfl (fun K hK => ?_)
        rw [if_pos (by rfl)]
        go_simp
        refine HCC.out.mono ?_
        rintro e wq ⟨rfl, hq⟩
        have HS := Lib.hid (HH2.out.drew.step hq)
        rw [← HSN.out] at HS
        have HQ2 := Lib.hid hq
        clear hq
        go_wp2_with fail
        refine hK.out _ _ trivial (fun hHeld => ?_)
        clear hK K
        try simp only [Act.put, List.setIfInBounds_toArray, List.set_cons_zero, List.set_cons_succ]
        refine held_yes (i := 10) (v := ?_) rfl (by kernel_rfl) (by kernel_rfl) (by kernel_rfl) (fun _ _ _ h => h) (by rfl) (fun w hSw => ?_) hHeld ?_
        rotate_left
        · go_simp; try with_reducible rfl
        simp only [List.setIfInBounds_toArray, List.set_cons_zero, List.set_cons_succ]
        refine held_yes (i := 11) (v := ?_) rfl (by kernel_rfl) (by kernel_rfl) (by kernel_rfl) (fun _ _ _ h => h) (by rfl) (fun w hSw => ?_) hHeld ?_
        rotate_left
        · go_simp; try with_reducible rfl
        simp only [List.setIfInBounds_toArray, List.set_cons_zero, List.set_cons_succ]
        refine held_only (i := 12) (by kernel_rfl) rfl (fun K hK => ?_)
        rw [if_pos (by rfl)]
        refine wp_store_mid 103 _ _ rfl hb 0 sn (by rfl) (by rfl) (by rw [HSN8.out]; exact HS.out.1) (HI8 _ HSN8.out) HSNO.out ?_
        refine hK.out _ _ trivial (fun hHeld => ?_)
        clear hK K
        try simp only [Act.put, List.setIfInBounds_toArray, List.set_cons_zero, List.set_cons_succ]
        refine wpAnyH_done (by kernel_rfl) ?_ _
        obtain ⟨_, q8, qf, qh⟩ := HS.out
        have HN := Lib.hid (qh g o rfl hlt)
        have hc2 : n2 ≤ c2 := HH2.out.seg.cap
        clear qh HS
        go_wp2_with fail
        case roundEnd =>
          refine ⟨⟨k2 + 1, _, _, _, HN.out, (HT2.out.drew.trans (((Touch.of_below HQ2.out).trans (Touch.setCells (S := Own hb A) hb (.inl rfl) sn.toList 0 wq) (fun _ _ e => e)).trans (Touch.setCell _ ⟨hb, 8, none⟩ _ (S := Own hb A) (.inl rfl)) (fun _ _ e => e)) (fun _ _ e => e)), fun a ha => ?_⟩, ?_⟩
          · have := HAT2.out ⟨g, o, none⟩ rfl
            split at ha <;> cases ha <;> exact this
          · simp only [restLen, HN.out.rest, HH2.out.rest]; omega
      · skip
        rw [if_pos (by rfl)]
        go_wp2_with fail
        refine hK.out _ _ trivial (fun hHeld => ?_)
        clear hK K
        try simp only [Act.put, List.setIfInBounds_toArray, List.set_cons_zero, List.set_cons_succ]
        refine held_only (i := 4) (by kernel_rfl) rfl (fun K hK => ?_)
        rw [if_pos (by rfl)]
        refine wp_load_mid 103 _ rfl hb 0 (by rfl) so.toList _ HSR.out Try.underlying103 rfl (HI8 _ HSO8.out) ?_
        refine hK.out _ _ trivial (fun hHeld => ?_)
        clear hK K
        try simp only [Act.put, List.setIfInBounds_toArray, List.set_cons_zero, List.set_cons_succ]
        refine held_only (i := 9) (by kernel_rfl) rfl (fun K hK => ?_)
        rw [if_pos (by rfl)]
        go_simp
        refine HCC.out.mono ?_
        rintro e wq ⟨rfl, hq⟩
        have HS := Lib.hid (HH2.out.drew.step hq)
        rw [← HSN.out] at HS
        have HQ2 := Lib.hid hq
        clear hq
        go_wp2_with fail
        refine hK.out _ _ trivial (fun hHeld => ?_)
        clear hK K
        try simp only [Act.put, List.setIfInBounds_toArray, List.set_cons_zero, List.set_cons_succ]
        refine held_yes (i := 10) (v := ?_) rfl (by kernel_rfl) (by kernel_rfl) (by kernel_rfl) (fun _ _ _ h => h) (by rfl) (fun w hSw => ?_) hHeld ?_
        rotate_left
        · go_simp; try with_reducible rfl
        simp only [List.setIfInBounds_toArray, List.set_cons_zero, List.set_cons_succ]
        refine held_yes (i := 11) (v := ?_) rfl (by kernel_rfl) (by kernel_rfl) (by kernel_rfl) (fun _ _ _ h => h) (by rfl) (fun w hSw => ?_) hHeld ?_
        rotate_left
        · go_simp; try with_reducible rfl
        simp only [List.setIfInBounds_toArray, List.set_cons_zero, List.set_cons_succ]
        refine held_only (i := 12) (by kernel_rfl) rfl (fun K hK => ?_)
        rw [if_pos (by rfl)]
        refine wp_store_mid 103 _ _ rfl hb 0 sn (by rfl) (by rfl) (by rw [HSN8.out]; exact HS.out.1) (HI8 _ HSN8.out) HSNO.out ?_
        refine hK.out _ _ trivial (fun hHeld => ?_)
        clear hK K
        try simp only [Act.put, List.setIfInBounds_toArray, List.set_cons_zero, List.set_cons_succ]
        refine wpAnyH_done (by kernel_rfl) ?_ _
        obtain ⟨_, q8, qf, qh⟩ := HS.out
        have HN := Lib.hid (qh g o rfl hlt)
        have hc2 : n2 ≤ c2 := HH2.out.seg.cap
        clear qh HS
        go_wp2_with fail
        case roundEnd =>
          refine ⟨⟨k2 + 1, _, _, _, HN.out, (HT2.out.drew.trans (((Touch.of_below HQ2.out).trans (Touch.setCells (S := Own hb A) hb (.inl rfl) sn.toList 0 wq) (fun _ _ e => e)).trans (Touch.setCell _ ⟨hb, 8, none⟩ _ (S := Own hb A) (.inl rfl)) (fun _ _ e => e)) (fun _ _ e => e)), fun a ha => ?_⟩, ?_⟩
          · have := HAT2.out ⟨g, o, none⟩ rfl
            split at ha <;> cases ha <;> exact this
          · simp only [restLen, HN.out.rest, HH2.out.rest]; omega
    · have l64 : (n2 : Int) < 64 := by omega
      have HEND : Hid (WRel w base hb A (cnt + nb) (msg ++ bs) wr ∧ restLen wr hb < 64) := Lib.hid ⟨⟨k2, A2, n2, c2, HH2.out, HT2.out, HAT2.out⟩, by simp only [restLen, HH2.out.rest]; omega⟩
      go_wp2_with fail
      go_end0
      exact ⟨rfl, by rw [HL.out]; exact HEND.out⟩
end Go.Proofs.Ythpigmkdchnnoaa
