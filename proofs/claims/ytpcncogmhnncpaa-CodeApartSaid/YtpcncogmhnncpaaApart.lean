/- The walk of locketlaw08.CodeApart. -/
import Derived.Test.YtpcncogmhnncpaaPuts
namespace Go.Proofs.Ytpcncogmhnncpaa
open Go.RowKit

def sameAt (p q : LPart) : Bool := if p.1 then p.2.2 == q.2.2 else p.2.1 == q.2.1
def sameL : List LPart → List LPart → Bool
  | p :: a, q :: b => sameAt p q && sameL a b
  | _, _ => true
theorem sameL_snoc (a b : List LPart) (h : a.length = b.length) (p q : LPart) : sameL (a ++ [p]) (b ++ [q]) = (sameL a b && sameAt p q) := by
  induction a generalizing b with
  | nil => cases b with
    | nil => simp [sameL]
    | cons _ _ => cases h
  | cons x a ih => cases b with
    | nil => cases h
    | cons y b => simp only [List.cons_append, sameL, ih b (by simpa using h), Bool.and_assoc]

theorem numB_inj (m n : Nat) (hm : m ≤ 1099511627776) (hn : n ≤ 1099511627776) (h : numB m = numB n) : m = n := by
  have := congrArg numOf h
  rwa [numOf_numB m (by omega), numOf_numB n (by omega)] at this
theorem textB_inj (a b r s : List UInt8) (ha : a.length ≤ 4096) (hb : b.length ≤ 4096) (h : textB a ++ r = textB b ++ s) : a = b ∧ r = s := by
  have h1 := rtext_textB a r ha
  rw [h, rtext_textB b s hb] at h1
  simp only [Prod.mk.injEq, and_true] at h1
  exact ⟨h1.1.symm, h1.2.symm⟩
/-- Rows of the same sorts, all of which can be written, have the same bytes just if they are the same. -/
theorem putB_same (a b : List LPart) (hl : a.length = b.length) (hs : ∀ (j : Nat) (p q : LPart), a[j]? = some p → b[j]? = some q → p.1 = q.1) (ha : ∀ p ∈ a, ptErr (ptOf p) = 0) (hb : ∀ p ∈ b, ptErr (ptOf p) = 0) :
    putB (a.map ptOf) = putB (b.map ptOf) ↔ sameL a b = true := by
  induction a generalizing b with
  | nil => cases b with
    | nil => simp [sameL]
    | cons _ _ => cases hl
  | cons p a ih => cases b with
    | nil => cases hl
    | cons q b =>
      have hpq := hs 0 p q rfl rfl
      have hp := ha p (by simp)
      have hq := hb q (by simp)
      have hih := ih b (by simpa using hl) (fun j p q h1 h2 => hs (j + 1) p q (by simpa using h1) (by simpa using h2)) (fun p h => ha p (by simp [h])) (fun p h => hb p (by simp [h]))
      have e1 : putB ((p :: a).map ptOf) = ptB (ptOf p) ++ putB (a.map ptOf) := by simp [putB]
      have e2 : putB ((q :: b).map ptOf) = ptB (ptOf q) ++ putB (b.map ptOf) := by simp [putB]
      rw [e1, e2]
      simp only [sameL, Bool.and_eq_true, ← hih]
      obtain ⟨t, pn, pt⟩ := p
      obtain ⟨t', qn, qt⟩ := q
      simp only at hpq
      subst hpq
      cases t with
      | true =>
        have h1 : pt.length ≤ 4096 := by
          simp only [ptOf, ptErr, if_true] at hp
          split at hp
          · assumption
          · cases hp
        have h2 : qt.length ≤ 4096 := by
          simp only [ptOf, ptErr, if_true] at hq
          split at hq
          · assumption
          · cases hq
        simp only [ptOf, ptB, if_true, sameAt, beq_iff_eq]
        constructor
        · exact fun h => textB_inj _ _ _ _ h1 h2 h
        · rintro ⟨rfl, h⟩; rw [h]
      | false =>
        have h1 : 0 ≤ pn ∧ pn ≤ 1099511627776 := by
          simp only [ptOf, ptErr, Bool.false_eq_true, if_false] at hp
          split at hp
          · assumption
          · cases hp
        have h2 : 0 ≤ qn ∧ qn ≤ 1099511627776 := by
          simp only [ptOf, ptErr, Bool.false_eq_true, if_false] at hq
          split at hq
          · assumption
          · cases hq
        obtain ⟨m, rfl⟩ := Int.eq_ofNat_of_zero_le h1.1
        obtain ⟨n, rfl⟩ := Int.eq_ofNat_of_zero_le h2.1
        simp only [ptOf, ptB, Bool.false_eq_true, if_false, sameAt, beq_iff_eq, Int.toNat_natCast]
        constructor
        · intro h
          have h3 := List.append_inj h (by simp [numB])
          exact ⟨by rw [numB_inj m n (by omega) (by omega) h3.1], h3.2⟩
        · rintro ⟨h3, h4⟩
          have : m = n := by omega
          rw [this, h4]

/-- At the head of the loop: the first k parts are of the same sorts; whether they are the same. -/
def ApRel (ps bs : List LPart) (w : World) (s i : Value) (wr : World) : Prop :=
  ∃ k : Nat, k ≤ ps.length ∧ i = .int .i64 k ∧ s = .bool (sameL (ps.take k) (bs.take k)) ∧ Below w.heap.size w wr ∧ ∀ j < k, ∀ p q, ps[j]? = some p → bs[j]? = some q → p.1 = q.1
theorem ApRel.next {ps bs : List LPart} {w wr : World} {k : Nat} {p q : LPart} {s : Bool} (hp : ps[k]? = some p) (hq : bs[k]? = some q) (he : p.1 = q.1) (hall : ∀ j < k, ∀ p q, ps[j]? = some p → bs[j]? = some q → p.1 = q.1) (hb : Below w.heap.size w wr)
    (hs : sameL (ps.take (k + 1)) (bs.take (k + 1)) = s) : ApRel ps bs w (.bool s) (.int .i64 ((k : Int) + 1)) wr := by
  refine ⟨k + 1, (List.getElem?_eq_some_iff.1 hp).1, rfl, by rw [hs], hb, fun j hj p' q' h1 h2 => ?_⟩
  by_cases hjk : j < k
  · exact hall j hjk p' q' h1 h2
  · obtain rfl : j = k := by omega
    rw [hp] at h1; rw [hq] at h2
    cases h1; cases h2; exact he
set_option linter.unusedSimpArgs false
set_option maxRecDepth 100000 in
set_option maxHeartbeats 2000000 in
theorem CodeApart_walk (w : World) (A : Option Addr) (n c : Nat) (ps : List LPart) (h : RSlice 3 RPart w [.slice A n c] ps) (A' : Option Addr) (n' c' : Nat) (bs : List LPart) (h' : RSlice 3 RPart w [.slice A' n' c'] bs) :
    Calls Try.prog 5 #[.slice A n c, .slice A' n' c'] w (Tells w true) := by
  have hsa := Lib.hid (fun w => small_any A n c ps w)
  have hsb := Lib.hid (fun w => small_any A' n' c' bs w)
  obtain ⟨rfl, cells, hr, _⟩ := slice_eta h
  obtain ⟨rfl, cells', hr', _⟩ := slice_eta h'
  have hmax := hr.max
  have hcap := hr.cap
  have hmax' := hr'.max
  have hcap' := hr'.cap
  unfold maxLen at hmax hmax'
  clear hr hr'
  have H := Lib.hid h
  have H' := Lib.hid h'
  clear h h'
  have hst : Stays (RSlice 3 RPart) := stays_slice stays_part
  have HST := Lib.hid hst
  clear hst
  go_enter Try.func5, Try.ntmps5
  go_wp2_with fail
  refine (anchor8 w).mono ?_
  rintro e w1 ⟨rfl, hb1⟩
  go_wp2_with fail
  refine (hsa.out w1 (HST.out _ _ _ _ hb1 H.out)).mono ?_
  rintro e w2 ⟨rfl, hb2⟩
  have hb12 := below_next hb1 hb2
  cases hsma : smallB ps with
  | false =>
    go_wp2_with fail
    go_ret
    exact ⟨rfl, hb12⟩
  | true =>
  have hla : ps.length ≤ 20 := by unfold smallB at hsma; simp at hsma; omega
  have HSA := Lib.hid hsma
  clear hsma
  go_wp2_with fail
  refine (hsb.out w2 (HST.out _ _ _ _ hb12 H'.out)).mono ?_
  rintro e w3 ⟨rfl, hb3⟩
  have hb123 := below_next hb12 hb3
  clear hb1 hb2 hb12 hb3
  cases hsmb : smallB bs with
  | false =>
    go_wp2_with fail
    go_ret
    exact ⟨rfl, hb123⟩
  | true =>
  have hlb : bs.length ≤ 20 := by unfold smallB at hsmb; simp at hsmb; omega
  have HSB := Lib.hid hsmb
  clear hsmb hsa hsb
  by_cases hlen : ps.length = bs.length
  case neg =>
    have hd : ((ps.length : Int) != (bs.length : Int)) = true := by simp; omega
    go_wp2_with fail
    go_ret
    exact ⟨rfl, hb123⟩
  have hd : ((ps.length : Int) != (bs.length : Int)) = false := by simp; omega
  have HL := Lib.hid hlen
  clear hlen
  go_wp2_with fail
  go_loopw [5, 6, 30] (fun s _ i wr => ApRel ps bs w s i wr) (fun _ _ i _ => ps.length - (intOf i).toNat)
  case atStart => exact ⟨0, Nat.zero_le _, rfl, rfl, hb123, fun j hj => by omega⟩
  case round =>
    obtain ⟨k, hk, rfl, rfl, hb, hall⟩ := hrel
    have HALL := Lib.hid hall
    clear hall
    by_cases hlt : k < ps.length
    · have hltb : k < bs.length := by have := HL.out; omega
      have hp : ps[k]? = some ps[k] := List.getElem?_eq_getElem hlt
      have hq : bs[k]? = some bs[k] := List.getElem?_eq_getElem hltb
      have hsn : sameL (ps.take (k + 1)) (bs.take (k + 1)) = (sameL (ps.take k) (bs.take k) && sameAt ps[k] bs[k]) := by
        rw [take_snoc ps k _ hp, take_snoc bs k _ hq, sameL_snoc _ _ (by rw [List.length_take, List.length_take]; omega)]
      generalize ps[k] = p at hp hsn
      generalize bs[k] = q at hq hsn
      obtain ⟨b, o, T, tc, rfl, g0, g1, g2, hr2, _⟩ := part_at H.out k p hp
      obtain ⟨b', o', T', tc', rfl, g0', g1', g2', hr2', _⟩ := part_at H'.out k q hq
      have hkp : ∀ w', Below w.heap.size w w' → w'.cell? ⟨b, o + k * 3, none⟩ = some (.bool p.1) ∧ w'.cell? ⟨b, o + k * 3 + 1, none⟩ = some (.int .i64 p.2.1) ∧ w'.cell? ⟨b, o + k * 3 + 2, none⟩ = some (.slice T p.2.2.length tc) ∧
          w'.cell? ⟨b', o' + k * 3, none⟩ = some (.bool q.1) ∧ w'.cell? ⟨b', o' + k * 3 + 1, none⟩ = some (.int .i64 q.2.1) ∧ w'.cell? ⟨b', o' + k * 3 + 2, none⟩ = some (.slice T' q.2.2.length tc') ∧
          (convert 23 9 (.slice T p.2.2.length tc)).run Try.prog w' = .ok (.string ⟨p.2.2.toArray⟩) w' ∧ (convert 23 9 (.slice T' q.2.2.length tc')).run Try.prog w' = .ok (.string ⟨q.2.2.toArray⟩) w' := fun w' hb' =>
        ⟨cell_below hb' g0, cell_below hb' g1, cell_below hb' g2, cell_below hb' g0', cell_below hb' g1', cell_below hb' g2', run_string_rd Try.underlying23 Try.underlying5 Try.underlying9 (hr2.below hb'), run_string_rd Try.underlying23 Try.underlying5 Try.underlying9 (hr2'.below hb')⟩
      have HKP := Lib.hid hkp
      have HP := Lib.hid hp
      have HQ := Lib.hid hq
      have HSN := Lib.hid hsn
      clear hkp hp hq hsn g0 g1 g2 g0' g1' g2' hr2 hr2'
      obtain ⟨t, pn, pt⟩ := p
      obtain ⟨t', qn, qt⟩ := q
      simp only at HKP
      go_wp2_with fail
      have hk0 : (0 : Int) ≤ (k : Int) := Int.natCast_nonneg _
      have hk1 : (k : Int) < (ps.length : Int) := by omega
      have hk2 : (k : Int) < (bs.length : Int) := by omega
      refine wp_region_held_drew (S := fun w' => w'.cell? ⟨b, o + k * 3, none⟩ = some (.bool t) ∧ w'.cell? ⟨b', o' + k * 3, none⟩ = some (.bool t')) (by kernel_rfl) ⟨(HKP.out _ hb.drew).1, (HKP.out _ hb.drew).2.2.2.1⟩ (fun hHeld => ?_)
      refine held_yes (i := 0) (v := ?_) rfl (by kernel_rfl) (by kernel_rfl) (by kernel_rfl) (fun _ _ _ h => h) (by rfl) (fun w hSw => ?_) hHeld ?_
      rotate_left
      · (try dsimp only at hSw); go_simp; try with_reducible rfl
      simp only [List.setIfInBounds_toArray, List.set_cons_zero, List.set_cons_succ]
      refine held_yes (i := 1) (v := ?_) rfl (by kernel_rfl) (by kernel_rfl) (by kernel_rfl) (fun _ _ _ h => h) (by rfl) (fun w hSw => ?_) hHeld ?_
      rotate_left
      · (try dsimp only at hSw); go_simp; try with_reducible rfl
      simp only [List.setIfInBounds_toArray, List.set_cons_zero, List.set_cons_succ]
      refine held_yes (i := 2) (v := ?_) rfl (by kernel_rfl) (by kernel_rfl) (by kernel_rfl) (fun _ _ _ h => h) (by rfl) (fun w hSw => ?_) hHeld ?_
      rotate_left
      · (try dsimp only at hSw); go_simp; try with_reducible rfl
      simp only [List.setIfInBounds_toArray, List.set_cons_zero, List.set_cons_succ]
      refine held_yes (i := 3) (v := ?_) rfl (by kernel_rfl) (by kernel_rfl) (by kernel_rfl) (fun _ _ _ h => h) (by rfl) (fun w hSw => ?_) hHeld ?_
      rotate_left
      · (try dsimp only at hSw); go_simp; try with_reducible rfl
      simp only [List.setIfInBounds_toArray, List.set_cons_zero, List.set_cons_succ]
      refine held_yes (i := 4) (v := ?_) rfl (by kernel_rfl) (by kernel_rfl) (by kernel_rfl) (fun _ _ _ h => h) (by rfl) (fun w hSw => ?_) hHeld ?_
      rotate_left
      · (try dsimp only at hSw); go_simp; try with_reducible rfl
      simp only [List.setIfInBounds_toArray, List.set_cons_zero, List.set_cons_succ]
      refine held_yes (i := 5) (v := ?_) rfl (by kernel_rfl) (by kernel_rfl) (by kernel_rfl) (fun _ _ _ h => h) (by rfl) (fun w hSw => ?_) hHeld ?_
      rotate_left
      · (try dsimp only at hSw); go_simp; try with_reducible rfl
      simp only [List.setIfInBounds_toArray, List.set_cons_zero, List.set_cons_succ]
      refine held_yes (i := 6) (v := ?_) rfl (by kernel_rfl) (by kernel_rfl) (by kernel_rfl) (fun _ _ _ h => h) (by rfl) (fun w hSw => ?_) hHeld ?_
      rotate_left
      · (try dsimp only at hSw); go_simp; try with_reducible rfl
      simp only [List.setIfInBounds_toArray, List.set_cons_zero, List.set_cons_succ]
      refine held_yes (i := 7) (v := ?_) rfl (by kernel_rfl) (by kernel_rfl) (by kernel_rfl) (fun _ _ _ h => h) (by rfl) (fun w hSw => ?_) hHeld ?_
      rotate_left
      · (try dsimp only at hSw); go_simp; try with_reducible rfl
      simp only [List.setIfInBounds_toArray, List.set_cons_zero, List.set_cons_succ]
      refine held_yes (i := 8) (v := ?_) rfl (by kernel_rfl) (by kernel_rfl) (by kernel_rfl) (fun _ _ _ h => h) (by rfl) (fun w hSw => ?_) hHeld ?_
      rotate_left
      · (try dsimp only at hSw); go_simp; try with_reducible rfl
      simp only [List.setIfInBounds_toArray, List.set_cons_zero, List.set_cons_succ]
      refine held_yes (i := 9) (v := ?_) rfl (by kernel_rfl) (by kernel_rfl) (by kernel_rfl) (fun _ _ _ h => h) (by rfl) (fun w hSw => ?_) hHeld ?_
      rotate_left
      · (try dsimp only at hSw); go_simp; try with_reducible rfl
      simp only [List.setIfInBounds_toArray, List.set_cons_zero, List.set_cons_succ]
      refine held_yes (i := 10) (v := ?_) rfl (by kernel_rfl) (by kernel_rfl) (by kernel_rfl) (fun _ _ _ h => h) (by rfl) (fun w hSw => ?_) hHeld ?_
      rotate_left
      · (try dsimp only at hSw); go_simp; try with_reducible rfl
      simp only [List.setIfInBounds_toArray, List.set_cons_zero, List.set_cons_succ]
      refine wpAnyH_done (by kernel_rfl) ?_ _
      cases t with
      | true =>
        cases t' with
        | false =>
          go_wp2_with fail
          go_ret
          exact ⟨rfl, hb.drew⟩
        | true =>
          go_wp2_with fail
          generalize hsm : sameL (List.take k ps) (List.take k bs) = sm at *
          have HSM := Lib.hid hsm
          clear hsm
          cases sm with
          | true =>
            refine wp_region_held_drew (S := fun w' => w'.cell? ⟨b, o + k * 3 + 2, none⟩ = some (.slice T pt.length tc) ∧ w'.cell? ⟨b', o' + k * 3 + 2, none⟩ = some (.slice T' qt.length tc') ∧
              (convert 23 9 (.slice T pt.length tc)).run Try.prog w' = .ok (.string ⟨pt.toArray⟩) w' ∧ (convert 23 9 (.slice T' qt.length tc')).run Try.prog w' = .ok (.string ⟨qt.toArray⟩) w') (by kernel_rfl)
              (by have := HKP.out _ hb.drew.drew; exact ⟨this.2.2.1, this.2.2.2.2.2.1, this.2.2.2.2.2.2⟩) (fun hHeld => ?_)
            refine held_yes (i := 0) (v := ?_) rfl (by kernel_rfl) (by kernel_rfl) (by kernel_rfl) (fun _ _ _ h => h) (by rfl) (fun w hSw => ?_) hHeld ?_
            rotate_left
            · (try dsimp only at hSw); go_simp; try with_reducible rfl
            simp only [List.setIfInBounds_toArray, List.set_cons_zero, List.set_cons_succ]
            refine held_yes (i := 1) (v := ?_) rfl (by kernel_rfl) (by kernel_rfl) (by kernel_rfl) (fun _ _ _ h => h) (by rfl) (fun w hSw => ?_) hHeld ?_
            rotate_left
            · (try dsimp only at hSw); go_simp; try with_reducible rfl
            simp only [List.setIfInBounds_toArray, List.set_cons_zero, List.set_cons_succ]
            refine held_yes (i := 2) (v := ?_) rfl (by kernel_rfl) (by kernel_rfl) (by kernel_rfl) (fun _ _ _ h => h) (by rfl) (fun w hSw => ?_) hHeld ?_
            rotate_left
            · (try dsimp only at hSw); go_simp; try with_reducible rfl
            simp only [List.setIfInBounds_toArray, List.set_cons_zero, List.set_cons_succ]
            refine held_yes (i := 3) (v := ?_) rfl (by kernel_rfl) (by kernel_rfl) (by kernel_rfl) (fun _ _ _ h => h) (by rfl) (fun w hSw => ?_) hHeld ?_
            rotate_left
            · (try dsimp only at hSw); go_simp; try with_reducible rfl
            simp only [List.setIfInBounds_toArray, List.set_cons_zero, List.set_cons_succ]
            refine held_yes (i := 4) (v := ?_) rfl (by kernel_rfl) (by kernel_rfl) (by kernel_rfl) (fun _ _ _ h => h) (by rfl) (fun w hSw => ?_) hHeld ?_
            rotate_left
            · (try dsimp only at hSw); go_simp; try with_reducible rfl
            simp only [List.setIfInBounds_toArray, List.set_cons_zero, List.set_cons_succ]
            refine held_yes (i := 5) (v := ?_) rfl (by kernel_rfl) (by kernel_rfl) (by kernel_rfl) (fun _ _ _ h => h) (by rfl) (fun w hSw => ?_) hHeld ?_
            rotate_left
            · (try dsimp only at hSw); go_simp; try with_reducible rfl
            simp only [List.setIfInBounds_toArray, List.set_cons_zero, List.set_cons_succ]
            refine held_yes (i := 6) (v := ?_) rfl (by kernel_rfl) (by kernel_rfl) (by kernel_rfl) (fun _ _ _ h => h) (by rfl) (fun w hSw => ?_) hHeld ?_
            rotate_left
            · (try dsimp only at hSw); go_simp; try with_reducible rfl
            simp only [List.setIfInBounds_toArray, List.set_cons_zero, List.set_cons_succ]
            refine held_yes (i := 7) (v := ?_) rfl (by kernel_rfl) (by kernel_rfl) (by kernel_rfl) (fun _ _ _ h => h) (by rfl) (fun w hSw => ?_) hHeld ?_
            rotate_left
            · (try dsimp only at hSw); go_simp; try with_reducible rfl
            simp only [List.setIfInBounds_toArray, List.set_cons_zero, List.set_cons_succ]
            refine held_yes (i := 8) (v := ?_) rfl (by kernel_rfl) (by kernel_rfl) (by kernel_rfl) (fun _ _ _ h => h) (by rfl) (fun w hSw => ?_) hHeld ?_
            rotate_left
            · (try dsimp only at hSw); go_simp; try with_reducible rfl
            simp only [List.setIfInBounds_toArray, List.set_cons_zero, List.set_cons_succ]
            refine held_yes (i := 9) (v := ?_) rfl (by kernel_rfl) (by kernel_rfl) (by kernel_rfl) (fun _ _ _ h => h) (by rfl) (fun w hSw => ?_) hHeld ?_
            rotate_left
            · (try dsimp only at hSw); go_simp; try with_reducible rfl
            simp only [List.setIfInBounds_toArray, List.set_cons_zero, List.set_cons_succ]
            refine held_yes (i := 10) (v := ?_) rfl (by kernel_rfl) (by kernel_rfl) (by kernel_rfl) (fun _ _ _ h => h) (by rfl) (fun w hSw => ?_) hHeld ?_
            rotate_left
            · (try dsimp only at hSw); go_simp; try with_reducible rfl
            simp only [List.setIfInBounds_toArray, List.set_cons_zero, List.set_cons_succ]
            refine held_yes (i := 11) (v := ?_) rfl (by kernel_rfl) (by kernel_rfl) (by kernel_rfl) (fun _ _ _ h => h) (by rfl) (fun w hSw => ?_) hHeld ?_
            rotate_left
            · (try dsimp only at hSw); go_simp; try with_reducible rfl
            simp only [List.setIfInBounds_toArray, List.set_cons_zero, List.set_cons_succ]
            refine held_yes (i := 12) (v := ?_) rfl (by kernel_rfl) (by kernel_rfl) (by kernel_rfl) (fun _ _ _ h => h) (by rfl) (fun w hSw => ?_) hHeld ?_
            rotate_left
            · (try dsimp only at hSw); go_simp; try with_reducible rfl
            simp only [List.setIfInBounds_toArray, List.set_cons_zero, List.set_cons_succ]
            refine held_yes (i := 13) (v := ?_) rfl (by kernel_rfl) (by kernel_rfl) (by kernel_rfl) (fun _ _ _ h => h) (by rfl) (fun w hSw => ?_) hHeld ?_
            rotate_left
            · (try dsimp only at hSw); go_simp; try with_reducible rfl
            simp only [List.setIfInBounds_toArray, List.set_cons_zero, List.set_cons_succ]
            refine held_yes (i := 14) (v := ?_) rfl (by kernel_rfl) (by kernel_rfl) (by kernel_rfl) (fun _ _ _ h => h) (by rfl) (fun w hSw => ?_) hHeld ?_
            rotate_left
            · (try dsimp only at hSw); go_simp; try with_reducible rfl
            simp only [List.setIfInBounds_toArray, List.set_cons_zero, List.set_cons_succ]
            refine held_yes (i := 15) (v := ?_) rfl (by kernel_rfl) (by kernel_rfl) (by kernel_rfl) (fun _ _ _ h => h) (by rfl) (fun w hSw => ?_) hHeld ?_
            rotate_left
            · (try dsimp only at hSw); go_simp; try with_reducible rfl
            simp only [List.setIfInBounds_toArray, List.set_cons_zero, List.set_cons_succ]
            refine held_yes (i := 16) (v := ?_) rfl (by kernel_rfl) (by kernel_rfl) (by kernel_rfl) (fun _ _ _ h => h) (by rfl) (fun w hSw => ?_) hHeld ?_
            rotate_left
            · (try dsimp only at hSw); go_simp; try with_reducible rfl
            simp only [List.setIfInBounds_toArray, List.set_cons_zero, List.set_cons_succ]
            refine wpAnyH_done (by kernel_rfl) ?_ _
            go_wp2_with fail
            go_roundw
            case rel => exact ApRel.next HP.out HQ.out rfl HALL.out hb.drew.drew (by rw [HSN.out]; rfl)
            case measure => simp [intOf]; omega
          | false =>
            refine wp_region_held_drew (S := fun _ => True) (by kernel_rfl) trivial (fun hHeld => ?_)
            refine held_yes (i := 0) (v := ?_) rfl (by kernel_rfl) (by kernel_rfl) (by kernel_rfl) (fun _ _ _ h => h) (by rfl) (fun w hSw => ?_) hHeld ?_
            rotate_left
            · (try dsimp only at hSw); go_simp; try with_reducible rfl
            simp only [List.setIfInBounds_toArray, List.set_cons_zero, List.set_cons_succ]
            refine held_yes (i := 1) (v := ?_) rfl (by kernel_rfl) (by kernel_rfl) (by kernel_rfl) (fun _ _ _ h => h) (by rfl) (fun w hSw => ?_) hHeld ?_
            rotate_left
            · (try dsimp only at hSw); go_simp; try with_reducible rfl
            simp only [List.setIfInBounds_toArray, List.set_cons_zero, List.set_cons_succ]
            refine held_no (i := 2) rfl (by kernel_rfl) (by kernel_rfl) (by kernel_rfl) (fun _ _ _ h => h) (by rfl) hHeld ?_
            simp only [List.setIfInBounds_toArray, List.set_cons_zero, List.set_cons_succ]
            refine held_no (i := 3) rfl (by kernel_rfl) (by kernel_rfl) (by kernel_rfl) (fun _ _ _ h => h) (by rfl) hHeld ?_
            simp only [List.setIfInBounds_toArray, List.set_cons_zero, List.set_cons_succ]
            refine held_no (i := 4) rfl (by kernel_rfl) (by kernel_rfl) (by kernel_rfl) (fun _ _ _ h => h) (by rfl) hHeld ?_
            simp only [List.setIfInBounds_toArray, List.set_cons_zero, List.set_cons_succ]
            refine held_no (i := 5) rfl (by kernel_rfl) (by kernel_rfl) (by kernel_rfl) (fun _ _ _ h => h) (by rfl) hHeld ?_
            simp only [List.setIfInBounds_toArray, List.set_cons_zero, List.set_cons_succ]
            refine held_no (i := 6) rfl (by kernel_rfl) (by kernel_rfl) (by kernel_rfl) (fun _ _ _ h => h) (by rfl) hHeld ?_
            simp only [List.setIfInBounds_toArray, List.set_cons_zero, List.set_cons_succ]
            refine held_no (i := 7) rfl (by kernel_rfl) (by kernel_rfl) (by kernel_rfl) (fun _ _ _ h => h) (by rfl) hHeld ?_
            simp only [List.setIfInBounds_toArray, List.set_cons_zero, List.set_cons_succ]
            refine held_no (i := 8) rfl (by kernel_rfl) (by kernel_rfl) (by kernel_rfl) (fun _ _ _ h => h) (by rfl) hHeld ?_
            simp only [List.setIfInBounds_toArray, List.set_cons_zero, List.set_cons_succ]
            refine held_no (i := 9) rfl (by kernel_rfl) (by kernel_rfl) (by kernel_rfl) (fun _ _ _ h => h) (by rfl) hHeld ?_
            simp only [List.setIfInBounds_toArray, List.set_cons_zero, List.set_cons_succ]
            refine held_no (i := 10) rfl (by kernel_rfl) (by kernel_rfl) (by kernel_rfl) (fun _ _ _ h => h) (by rfl) hHeld ?_
            simp only [List.setIfInBounds_toArray, List.set_cons_zero, List.set_cons_succ]
            refine held_no (i := 11) rfl (by kernel_rfl) (by kernel_rfl) (by kernel_rfl) (fun _ _ _ h => h) (by rfl) hHeld ?_
            simp only [List.setIfInBounds_toArray, List.set_cons_zero, List.set_cons_succ]
            refine held_no (i := 12) rfl (by kernel_rfl) (by kernel_rfl) (by kernel_rfl) (fun _ _ _ h => h) (by rfl) hHeld ?_
            simp only [List.setIfInBounds_toArray, List.set_cons_zero, List.set_cons_succ]
            refine held_no (i := 13) rfl (by kernel_rfl) (by kernel_rfl) (by kernel_rfl) (fun _ _ _ h => h) (by rfl) hHeld ?_
            simp only [List.setIfInBounds_toArray, List.set_cons_zero, List.set_cons_succ]
            refine held_no (i := 14) rfl (by kernel_rfl) (by kernel_rfl) (by kernel_rfl) (fun _ _ _ h => h) (by rfl) hHeld ?_
            simp only [List.setIfInBounds_toArray, List.set_cons_zero, List.set_cons_succ]
            refine held_yes (i := 15) (v := ?_) rfl (by kernel_rfl) (by kernel_rfl) (by kernel_rfl) (fun _ _ _ h => h) (by rfl) (fun w hSw => ?_) hHeld ?_
            rotate_left
            · (try dsimp only at hSw); go_simp; try with_reducible rfl
            simp only [List.setIfInBounds_toArray, List.set_cons_zero, List.set_cons_succ]
            refine held_yes (i := 16) (v := ?_) rfl (by kernel_rfl) (by kernel_rfl) (by kernel_rfl) (fun _ _ _ h => h) (by rfl) (fun w hSw => ?_) hHeld ?_
            rotate_left
            · (try dsimp only at hSw); go_simp; try with_reducible rfl
            simp only [List.setIfInBounds_toArray, List.set_cons_zero, List.set_cons_succ]
            refine wpAnyH_done (by kernel_rfl) ?_ _
            go_wp2_with fail
            go_roundw
            case rel => exact ApRel.next HP.out HQ.out rfl HALL.out hb.drew.drew (by rw [HSN.out]; rfl)
            case measure => simp [intOf]; omega
      | false =>
        cases t' with
        | true =>
          go_wp2_with fail
          go_ret
          exact ⟨rfl, hb.drew⟩
        | false =>
          go_wp2_with fail
          generalize hsm : sameL (List.take k ps) (List.take k bs) = sm at *
          have HSM := Lib.hid hsm
          clear hsm
          cases sm with
          | true =>
            refine wp_region_held_drew (S := fun w' => w'.cell? ⟨b, o + k * 3 + 1, none⟩ = some (.int .i64 pn) ∧ w'.cell? ⟨b', o' + k * 3 + 1, none⟩ = some (.int .i64 qn)) (by kernel_rfl)
              (by have := HKP.out _ hb.drew.drew; exact ⟨this.2.1, this.2.2.2.2.1⟩) (fun hHeld => ?_)
            refine held_yes (i := 0) (v := ?_) rfl (by kernel_rfl) (by kernel_rfl) (by kernel_rfl) (fun _ _ _ h => h) (by rfl) (fun w hSw => ?_) hHeld ?_
            rotate_left
            · (try dsimp only at hSw); go_simp; try with_reducible rfl
            simp only [List.setIfInBounds_toArray, List.set_cons_zero, List.set_cons_succ]
            refine held_yes (i := 1) (v := ?_) rfl (by kernel_rfl) (by kernel_rfl) (by kernel_rfl) (fun _ _ _ h => h) (by rfl) (fun w hSw => ?_) hHeld ?_
            rotate_left
            · (try dsimp only at hSw); go_simp; try with_reducible rfl
            simp only [List.setIfInBounds_toArray, List.set_cons_zero, List.set_cons_succ]
            refine held_yes (i := 2) (v := ?_) rfl (by kernel_rfl) (by kernel_rfl) (by kernel_rfl) (fun _ _ _ h => h) (by rfl) (fun w hSw => ?_) hHeld ?_
            rotate_left
            · (try dsimp only at hSw); go_simp; try with_reducible rfl
            simp only [List.setIfInBounds_toArray, List.set_cons_zero, List.set_cons_succ]
            refine held_yes (i := 3) (v := ?_) rfl (by kernel_rfl) (by kernel_rfl) (by kernel_rfl) (fun _ _ _ h => h) (by rfl) (fun w hSw => ?_) hHeld ?_
            rotate_left
            · (try dsimp only at hSw); go_simp; try with_reducible rfl
            simp only [List.setIfInBounds_toArray, List.set_cons_zero, List.set_cons_succ]
            refine held_yes (i := 4) (v := ?_) rfl (by kernel_rfl) (by kernel_rfl) (by kernel_rfl) (fun _ _ _ h => h) (by rfl) (fun w hSw => ?_) hHeld ?_
            rotate_left
            · (try dsimp only at hSw); go_simp; try with_reducible rfl
            simp only [List.setIfInBounds_toArray, List.set_cons_zero, List.set_cons_succ]
            refine held_yes (i := 5) (v := ?_) rfl (by kernel_rfl) (by kernel_rfl) (by kernel_rfl) (fun _ _ _ h => h) (by rfl) (fun w hSw => ?_) hHeld ?_
            rotate_left
            · (try dsimp only at hSw); go_simp; try with_reducible rfl
            simp only [List.setIfInBounds_toArray, List.set_cons_zero, List.set_cons_succ]
            refine held_yes (i := 6) (v := ?_) rfl (by kernel_rfl) (by kernel_rfl) (by kernel_rfl) (fun _ _ _ h => h) (by rfl) (fun w hSw => ?_) hHeld ?_
            rotate_left
            · (try dsimp only at hSw); go_simp; try with_reducible rfl
            simp only [List.setIfInBounds_toArray, List.set_cons_zero, List.set_cons_succ]
            refine held_yes (i := 7) (v := ?_) rfl (by kernel_rfl) (by kernel_rfl) (by kernel_rfl) (fun _ _ _ h => h) (by rfl) (fun w hSw => ?_) hHeld ?_
            rotate_left
            · (try dsimp only at hSw); go_simp; try with_reducible rfl
            simp only [List.setIfInBounds_toArray, List.set_cons_zero, List.set_cons_succ]
            refine held_yes (i := 8) (v := ?_) rfl (by kernel_rfl) (by kernel_rfl) (by kernel_rfl) (fun _ _ _ h => h) (by rfl) (fun w hSw => ?_) hHeld ?_
            rotate_left
            · (try dsimp only at hSw); go_simp; try with_reducible rfl
            simp only [List.setIfInBounds_toArray, List.set_cons_zero, List.set_cons_succ]
            refine held_yes (i := 9) (v := ?_) rfl (by kernel_rfl) (by kernel_rfl) (by kernel_rfl) (fun _ _ _ h => h) (by rfl) (fun w hSw => ?_) hHeld ?_
            rotate_left
            · (try dsimp only at hSw); go_simp; try with_reducible rfl
            simp only [List.setIfInBounds_toArray, List.set_cons_zero, List.set_cons_succ]
            refine held_yes (i := 10) (v := ?_) rfl (by kernel_rfl) (by kernel_rfl) (by kernel_rfl) (fun _ _ _ h => h) (by rfl) (fun w hSw => ?_) hHeld ?_
            rotate_left
            · (try dsimp only at hSw); go_simp; try with_reducible rfl
            simp only [List.setIfInBounds_toArray, List.set_cons_zero, List.set_cons_succ]
            refine held_yes (i := 11) (v := ?_) rfl (by kernel_rfl) (by kernel_rfl) (by kernel_rfl) (fun _ _ _ h => h) (by rfl) (fun w hSw => ?_) hHeld ?_
            rotate_left
            · (try dsimp only at hSw); go_simp; try with_reducible rfl
            simp only [List.setIfInBounds_toArray, List.set_cons_zero, List.set_cons_succ]
            refine held_yes (i := 12) (v := ?_) rfl (by kernel_rfl) (by kernel_rfl) (by kernel_rfl) (fun _ _ _ h => h) (by rfl) (fun w hSw => ?_) hHeld ?_
            rotate_left
            · (try dsimp only at hSw); go_simp; try with_reducible rfl
            simp only [List.setIfInBounds_toArray, List.set_cons_zero, List.set_cons_succ]
            refine held_yes (i := 13) (v := ?_) rfl (by kernel_rfl) (by kernel_rfl) (by kernel_rfl) (fun _ _ _ h => h) (by rfl) (fun w hSw => ?_) hHeld ?_
            rotate_left
            · (try dsimp only at hSw); go_simp; try with_reducible rfl
            simp only [List.setIfInBounds_toArray, List.set_cons_zero, List.set_cons_succ]
            refine held_yes (i := 14) (v := ?_) rfl (by kernel_rfl) (by kernel_rfl) (by kernel_rfl) (fun _ _ _ h => h) (by rfl) (fun w hSw => ?_) hHeld ?_
            rotate_left
            · (try dsimp only at hSw); go_simp; try with_reducible rfl
            simp only [List.setIfInBounds_toArray, List.set_cons_zero, List.set_cons_succ]
            refine wpAnyH_done (by kernel_rfl) ?_ _
            go_wp2_with fail
            go_roundw
            case rel => exact ApRel.next HP.out HQ.out rfl HALL.out hb.drew.drew (by rw [HSN.out]; rfl)
            case measure => simp [intOf]; omega
          | false =>
            refine wp_region_held_drew (S := fun _ => True) (by kernel_rfl) trivial (fun hHeld => ?_)
            refine held_yes (i := 0) (v := ?_) rfl (by kernel_rfl) (by kernel_rfl) (by kernel_rfl) (fun _ _ _ h => h) (by rfl) (fun w hSw => ?_) hHeld ?_
            rotate_left
            · (try dsimp only at hSw); go_simp; try with_reducible rfl
            simp only [List.setIfInBounds_toArray, List.set_cons_zero, List.set_cons_succ]
            refine held_yes (i := 1) (v := ?_) rfl (by kernel_rfl) (by kernel_rfl) (by kernel_rfl) (fun _ _ _ h => h) (by rfl) (fun w hSw => ?_) hHeld ?_
            rotate_left
            · (try dsimp only at hSw); go_simp; try with_reducible rfl
            simp only [List.setIfInBounds_toArray, List.set_cons_zero, List.set_cons_succ]
            refine held_no (i := 2) rfl (by kernel_rfl) (by kernel_rfl) (by kernel_rfl) (fun _ _ _ h => h) (by rfl) hHeld ?_
            simp only [List.setIfInBounds_toArray, List.set_cons_zero, List.set_cons_succ]
            refine held_no (i := 3) rfl (by kernel_rfl) (by kernel_rfl) (by kernel_rfl) (fun _ _ _ h => h) (by rfl) hHeld ?_
            simp only [List.setIfInBounds_toArray, List.set_cons_zero, List.set_cons_succ]
            refine held_no (i := 4) rfl (by kernel_rfl) (by kernel_rfl) (by kernel_rfl) (fun _ _ _ h => h) (by rfl) hHeld ?_
            simp only [List.setIfInBounds_toArray, List.set_cons_zero, List.set_cons_succ]
            refine held_no (i := 5) rfl (by kernel_rfl) (by kernel_rfl) (by kernel_rfl) (fun _ _ _ h => h) (by rfl) hHeld ?_
            simp only [List.setIfInBounds_toArray, List.set_cons_zero, List.set_cons_succ]
            refine held_no (i := 6) rfl (by kernel_rfl) (by kernel_rfl) (by kernel_rfl) (fun _ _ _ h => h) (by rfl) hHeld ?_
            simp only [List.setIfInBounds_toArray, List.set_cons_zero, List.set_cons_succ]
            refine held_no (i := 7) rfl (by kernel_rfl) (by kernel_rfl) (by kernel_rfl) (fun _ _ _ h => h) (by rfl) hHeld ?_
            simp only [List.setIfInBounds_toArray, List.set_cons_zero, List.set_cons_succ]
            refine held_no (i := 8) rfl (by kernel_rfl) (by kernel_rfl) (by kernel_rfl) (fun _ _ _ h => h) (by rfl) hHeld ?_
            simp only [List.setIfInBounds_toArray, List.set_cons_zero, List.set_cons_succ]
            refine held_no (i := 9) rfl (by kernel_rfl) (by kernel_rfl) (by kernel_rfl) (fun _ _ _ h => h) (by rfl) hHeld ?_
            simp only [List.setIfInBounds_toArray, List.set_cons_zero, List.set_cons_succ]
            refine held_no (i := 10) rfl (by kernel_rfl) (by kernel_rfl) (by kernel_rfl) (fun _ _ _ h => h) (by rfl) hHeld ?_
            simp only [List.setIfInBounds_toArray, List.set_cons_zero, List.set_cons_succ]
            refine held_no (i := 11) rfl (by kernel_rfl) (by kernel_rfl) (by kernel_rfl) (fun _ _ _ h => h) (by rfl) hHeld ?_
            simp only [List.setIfInBounds_toArray, List.set_cons_zero, List.set_cons_succ]
            refine held_no (i := 12) rfl (by kernel_rfl) (by kernel_rfl) (by kernel_rfl) (fun _ _ _ h => h) (by rfl) hHeld ?_
            simp only [List.setIfInBounds_toArray, List.set_cons_zero, List.set_cons_succ]
            refine held_yes (i := 13) (v := ?_) rfl (by kernel_rfl) (by kernel_rfl) (by kernel_rfl) (fun _ _ _ h => h) (by rfl) (fun w hSw => ?_) hHeld ?_
            rotate_left
            · (try dsimp only at hSw); go_simp; try with_reducible rfl
            simp only [List.setIfInBounds_toArray, List.set_cons_zero, List.set_cons_succ]
            refine held_yes (i := 14) (v := ?_) rfl (by kernel_rfl) (by kernel_rfl) (by kernel_rfl) (fun _ _ _ h => h) (by rfl) (fun w hSw => ?_) hHeld ?_
            rotate_left
            · (try dsimp only at hSw); go_simp; try with_reducible rfl
            simp only [List.setIfInBounds_toArray, List.set_cons_zero, List.set_cons_succ]
            refine wpAnyH_done (by kernel_rfl) ?_ _
            go_wp2_with fail
            go_roundw
            case rel => exact ApRel.next HP.out HQ.out rfl HALL.out hb.drew.drew (by rw [HSN.out]; rfl)
            case measure => simp [intOf]; omega
    · have hke : k = ps.length := by omega
      have HK := Lib.hid hke
      clear hke
      have hsorts := HALL.out
      rw [HK.out] at hsorts
      rw [HK.out, show ps.take ps.length = ps from List.take_length, show bs.take ps.length = bs from by rw [HL.out, List.take_length]]
      have hput1 := Lib.hid (put_any A ps.length c ps wr (HST.out _ _ _ _ hb H.out) (by omega))
      go_wp2_with fail
      refine hput1.out.mono ?_
      intro e w4 hp1
      have hb4 : Below w.heap.size w w4 := by
        rcases hp1 with ⟨_, A1, c1, _, _, h⟩ | ⟨_, _, h⟩ <;> exact below_next hb h
      have hput2 := Lib.hid (put_any A' bs.length c' bs w4 (HST.out _ _ _ _ hb4 H'.out) (by omega))
      rcases hp1 with ⟨he1, A1, c1, rfl, hs1, hbb1⟩ | ⟨he1, rfl, hbb1⟩
      · have HE1 := Lib.hid he1
        have HS1 := Lib.hid hs1
        clear he1 hs1
        go_wp2_with fail
        refine hput2.out.mono ?_
        intro e w5 hp2
        rcases hp2 with ⟨he2, A2, c2, rfl, hs2, hbb2⟩ | ⟨he2, rfl, hbb2⟩
        · have hsame := putB_same ps bs HL.out (fun j p q h1 h2 => hsorts j (List.getElem?_eq_some_iff.1 h1).1 p q h1 h2) (fun p hp => (putErr_ok _).1 HE1.out _ (List.mem_map.2 ⟨p, hp, rfl⟩)) (fun p hp => (putErr_ok _).1 he2 _ (List.mem_map.2 ⟨p, hp, rfl⟩))
          have k1 : (convert 23 9 (.slice A1 (putB (ps.map ptOf)).length c1)).run Try.prog w5 = .ok (.string ⟨(putB (ps.map ptOf)).toArray⟩) w5 := run_string_rd Try.underlying23 Try.underlying5 Try.underlying9 (HS1.out.below hbb2).rd
          have k2 : (convert 23 9 (.slice A2 (putB (bs.map ptOf)).length c2)).run Try.prog w5 = .ok (.string ⟨(putB (bs.map ptOf)).toArray⟩) w5 := run_string_rd Try.underlying23 Try.underlying5 Try.underlying9 hs2.rd
          have hbe : ((putB (ps.map ptOf) == putB (bs.map ptOf)) == sameL ps bs) = true := by
            cases hsl : sameL ps bs with
            | true => simp [hsame.2 hsl]
            | false =>
              have : putB (ps.map ptOf) ≠ putB (bs.map ptOf) := fun h => by rw [hsame.1 h] at hsl; cases hsl
              simp [this]
          generalize putB (ps.map ptOf) = x at *
          generalize putB (bs.map ptOf) = y at *
          generalize sameL ps bs = z at *
          have HBE := Lib.hid hbe
          clear hbe hsame he2 hsorts hs2
          go_wp2_with fail
          go_ret
          refine ⟨?_, below_next hb4 hbb2⟩
          show Ending.returned (.bool ((x == y) == z)) = _
          rw [HBE.out]
        · have hne : (putErr (bs.map ptOf) != 0) = true := by simpa using he2
          generalize putErr (bs.map ptOf) = er at *
          clear he2 hsorts
          go_wp2_with fail
          go_ret
          exact ⟨rfl, below_next hb4 hbb2⟩
      · have hne : (putErr (ps.map ptOf) != 0) = true := by simpa using he1
        generalize putErr (ps.map ptOf) = er at *
        clear he1 hsorts
        go_wp2_with fail
        refine hput2.out.mono ?_
        intro e w5 hp2
        rcases hp2 with ⟨he2, A2, c2, rfl, hs2, hbb2⟩ | ⟨he2, rfl, hbb2⟩
        · clear hs2 he2
          go_wp2_with fail
          go_ret
          exact ⟨rfl, below_next hb4 hbb2⟩
        · clear he2
          go_wp2_with fail
          go_ret
          exact ⟨rfl, below_next hb4 hbb2⟩
end Go.Proofs.Ytpcncogmhnncpaa
