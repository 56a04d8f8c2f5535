/- The walk of locketlaw08.CodeOwn. -/
import Derived.Test.YtpcncogmhnncpaaPuts
namespace Go.Proofs.Ytpcncogmhnncpaa
open Go.RowKit
set_option linter.unusedSimpArgs false

theorem setCells_snoc (g : Nat) : ∀ (vs : List Value) (o : Nat) (v : Value) (w : World), w.setCells g o (vs ++ [v]) = (w.setCells g o vs).setCell ⟨g, o + vs.length, none⟩ v := by
  intro vs
  induction vs with
  | nil => intro o v w; simp [World.setCells]
  | cons x r ih => intro o v w; simp only [List.cons_append, World.setCells, ih, List.length_cons]; rw [Nat.add_assoc, Nat.add_comm 1]
theorem tape_setCells (g : Nat) : ∀ (vs : List Value) (o : Nat) (w : World), (w.setCells g o vs).tape = w.tape := by
  intro vs
  induction vs with
  | nil => intros; rfl
  | cons v r ih => intro o w; rw [World.setCells, ih]; rfl
theorem grown_setCells (w : World) (g o : Nat) (vs : List Value) : w.grownBy (w.setCells g o vs) (some g) :=
  ⟨World.os_setCells _ _ _ _, tape_setCells _ _ _ _, World.output_setCells _ _ _ _, by rw [size_setCells]; exact Nat.le_refl _, fun k hk hne => World.heap_setCells_other _ _ _ _ hk (by simpa using hne)⟩

/-- At the head of a loop that turns the bytes of a row over: the cells behind k are as they were. -/
def FlipRel (w : World) (A : Option Addr) (n : Nat) (i : Value) (wr : World) : Prop :=
  ∃ k : Nat, k ≤ n ∧ i = .int .i64 k ∧ ((k = 0 ∧ wr = w) ∨ ∃ g o vs, A = some ⟨g, o, none⟩ ∧ vs.length = k ∧ wr = w.setCells g o vs)
theorem FlipRel.start (w : World) (A : Option Addr) (n : Nat) : FlipRel w A n (.int .i64 0) w := ⟨0, Nat.zero_le _, rfl, .inl ⟨rfl, rfl⟩⟩
/-- What a round reads, and may write. -/
theorem FlipRel.round {w wr : World} {A : Option Addr} {n c base k : Nat} {cur : List UInt8} (hs : Seg w base 1 A n c (bvs cur)) (hk : k < n)
    (h : (k = 0 ∧ wr = w) ∨ ∃ g o vs, A = some ⟨g, o, none⟩ ∧ vs.length = k ∧ wr = w.setCells g o vs) :
    ∃ g o y, A = some ⟨g, o, none⟩ ∧ wr.cell? ⟨g, o + k, none⟩ = some (bv y) ∧ wr.frozen? ⟨g, o + k, none⟩ = false ∧ ∀ v, FlipRel w A n (.int .i64 ((k : Int) + 1)) (wr.setCell ⟨g, o + k, none⟩ v) := by
  have hl : cur.length = n := by have := hs.len; rw [bvs_length] at this; omega
  have hcap := hs.cap
  rcases hs.form with ⟨_, hc⟩ | ⟨g, o, rfl, hb, hf, hx⟩
  · omega
  · have hcell := hx k _ (bvs_get cur k (by omega))
    have hfr := (hf k (by omega)).2
    rcases h with ⟨rfl, rfl⟩ | ⟨g', o', vs, hA, hvl, rfl⟩
    · exact ⟨g, o, _, rfl, hcell, hfr, fun v => ⟨1, hk, rfl, .inr ⟨g, o, [v], rfl, rfl, rfl⟩⟩⟩
    · cases hA
      refine ⟨g, o, cur[k], rfl, ?_, by rw [World.frozen?_setCells]; exact hfr, fun v => ⟨k + 1, hk, rfl, .inr ⟨g, o, vs ++ [v], rfl, by simp [hvl], by rw [setCells_snoc, hvl]⟩⟩⟩
      rw [World.cell?_setCells_out g vs o w _ (fun _ _ => by simp; omega)]
      exact hcell
theorem FlipRel.grown {w wr : World} {A : Option Addr} {k : Nat} (h : (k = 0 ∧ wr = w) ∨ ∃ g o vs, A = some ⟨g, o, none⟩ ∧ vs.length = k ∧ wr = w.setCells g o vs) : w.grownBy wr (A.map (·.block)) := by
  rcases h with ⟨_, rfl⟩ | ⟨g, o, vs, rfl, _, rfl⟩
  · exact World.grownBy.refl _ _
  · exact grown_setCells w g o vs

theorem rtext_textB' (most : Int) (bs rest : List UInt8) (h : bs.length ≤ 4096) (hm : (bs.length : Int) ≤ most) : rtext 0 most (textB bs ++ rest, false) = (bs, (rest, false)) := by
  have hg : rget 2 (textB bs ++ rest, false) = (bs.length, (bs ++ rest, false)) := by
    unfold rget
    rw [if_neg (by simp [textB])]
    have : numOf ((textB bs ++ rest).take 2) = bs.length := by
      simp [textB, numOf]
      omega
    rw [this]
    simp [textB]
  unfold rtext
  rw [hg]
  rw [if_neg (by simp; omega), if_neg (by simp)]
  simp

theorem own_lt {w : World} {base size : Nat} {A : Option Addr} {n c : Nat} {xs : List Value} (h : Seg w base size A n c xs) {k : Nat} (hk : A.map (·.block) = some k) : k < w.heap.size := by
  cases A with
  | none => simp at hk
  | some a => simp at hk; subst hk; exact h.lt a rfl
/-- What was made later lies elsewhere. -/
theorem apart_segs {w w' : World} {base size n c : Nat} {A A' : Option Addr} {n' c' : Nat} {xs ys : List Value} {B : Nat} (h : Seg w base size A n c xs) (h' : Seg w' B size A' n' c' ys) (hB : w.heap.size ≤ B) : ∀ a, A' = some a → some a.block ≠ A.map (·.block) := by
  intro a ha
  have h1 := h'.base_le a ha
  cases A with
  | none => simp
  | some b => have := h.lt b rfl; simp; omega
theorem Rdr.kept_lt {w w' : World} {base r : Nat} {s : RS} (h : Rdr w base r s) {row : Option Nat} (hg : w.grownBy w' row) (hrow : ∀ k, row = some k → k < base ∧ k ≠ r) : Rdr w' base r s := by
  obtain ⟨A, c, hr, hs, ha⟩ := h
  refine ⟨A, c, ?_, hs.kept hg (fun a e hh => ?_), ha⟩
  · rw [hg.block r (Array.getElem?_eq_some_iff.1 hr).1 (fun e => (hrow r e.symm).2 rfl)]; exact hr
  · have h1 := hs.base_le a e
    have := (hrow _ hh.symm).1
    omega
/-- []byte{}: a row of nothing. -/
theorem seg_empty (w : World) (e : TypeId) : Seg (w.alloc (.cells #[] e)) w.heap.size 1 (some ⟨w.heap.size, 0, none⟩) 0 0 (bvs []) := seg_lit w #[] [] e w.heap.size rfl (Nat.le_refl _) (by simp)
theorem not_block {w w' : World} {base size n c : Nat} {A A' : Option Addr} {n' c' : Nat} {xs ys : List Value} {B : Nat} (h : Seg w base size A n c xs) (hB : w.heap.size ≤ B) (h' : Seg w' B size A' n' c' ys) : ∀ a, A = some a → some a.block ≠ A'.map (·.block) := by
  intro a ha
  have h1 := h.lt a ha
  cases A' with
  | none => simp
  | some a' => have := h'.base_le a' rfl; simp; omega

set_option maxRecDepth 100000 in
set_option maxHeartbeats 2000000 in
theorem CodeOwn_ok (w : World) (A : Option Addr) (c : Nat) (bs : List UInt8) (hr : Rd w 1 A bs.length c (bvs bs)) (hl : bs.length ≤ 500) :
    Calls Try.prog 4 #[.slice A bs.length c] w (Tells w true) := by
  have HR := Lib.hid hr
  clear hr
  have hl' : decide ((bs.length : Int) ≤ 500) = true := by simp; omega
  go_enter Try.func4, Try.ntmps4
  go_wp2_with fail
  refine (anchor8 w).mono ?_
  rintro e w1 ⟨rfl, hb1⟩
  go_wp2_with (at_builtin; refine wpList_append_seg rfl _ _ _ _ rfl ei_u8 rfl (seg_empty w1 5) rfl (((HR.out.below hb1).below ((Below.refl _ _).alloc (Nat.le_refl _) _)).src Try.underlying23 (bvs_one _)) (by simp [maxLen]; omega) (by simp; omega) (by simp) ?_; intro A2 c2 w2 hs2 hg2 _)
  have hz2 := hg2.size
  have hb12 : Below w.heap.size w w2 := ((hb1.alloc hb1.size _).grown hg2 (by have := hb1.size; simp; omega) (fun k hk => by cases hk; exact hb1.size))
  rw [Nat.zero_add, show bvs [] ++ bvs bs = bvs bs from rfl] at hs2
  have hput := Put_any [.inr bs, .inr bs] (some ⟨w2.heap.size, 0, none⟩) 2 [.iface 23 (.slice A2 bs.length c2), .iface 23 (.slice A2 bs.length c2)] _ (rd_lit w2 #[.iface 23 (.slice A2 bs.length c2), .iface 23 (.slice A2 bs.length c2)] 20 1 2 rfl (by simp [maxLen]))
    (fun k p v hp hv => by
      have hs := (hs2.below ((Below.refl _ _).alloc (Nat.le_refl _) (.cells #[.iface 23 (.slice A2 bs.length c2), .iface 23 (.slice A2 bs.length c2)] 20))).rd
      match k, hp, hv with
      | 0, hp, hv => simp at hp hv; subst hp; subst hv; exact .inl ⟨A2, c2, rfl, hs⟩
      | 1, hp, hv => simp at hp hv; subst hp; subst hv; exact .inl ⟨A2, c2, rfl, hs⟩
      | k + 2, hp, hv => simp at hp) (by simp)
  have HP := Lib.hid hput
  clear hput
  refine HP.out.mono ?_
  intro e w3 hp3
  have he0 : putErr [.inr bs, .inr bs] = 0 := by simp [putErr, ptErr]; omega
  obtain ⟨A3, c3, rfl, hs3, hb3⟩ := hp3.ok he0
  have hpb : putB [.inr bs, .inr bs] = textB bs ++ textB bs := by simp [putB, ptB]
  rw [hpb] at hs3 ⊢
  have hN : (textB bs ++ textB bs).length ≤ 1004 := by simp [textB]; omega
  have HS2 := Lib.hid hs2
  have HS3 := Lib.hid (hs3.mono (base' := w2.heap.size) (by simp))
  have h23 : w2.heap.size < w3.heap.size := by have := hb3.size; simp at this; omega
  have hb3' : Below w2.heap.size w2 w3 := ((Below.refl _ _).alloc (Nat.le_refl _) _).trans (hb3.mono (by simp))
  have hb13 := below_next hb12 hb3'
  have hs2' := hs2.below hb3'
  clear hs2 hs3 hp3 hb3 HP he0 hpb hg2
  have HS2' := Lib.hid hs2'
  clear hs2'
  obtain ⟨N, hNe⟩ : ∃ N, N = (textB bs ++ textB bs).length := ⟨_, rfl⟩
  rw [← hNe] at HS3 hN ⊢
  have HNE := Lib.hid hNe
  clear hNe
  go_wp2_with fail
  have hread := Read_any A3 c3 (textB bs ++ textB bs) w3 (by rw [← HNE.out]; exact HS3.out.rd) (by rw [← HNE.out]; omega)
  rw [← HNE.out] at hread
  refine hread.mono ?_
  rintro e w4 ⟨r, rfl, hr0, hr4, hb4⟩
  have HR4 := Lib.hid hr4
  have HS2q := Lib.hid (HS2'.out.below hb4)
  have HS3q := Lib.hid (HS3.out.below hb4)
  have hb14 := below_next hb13 hb4
  clear hr4 hread
  go_wp2_with fail
  go_loopw [7, 32] (fun _ i wr => FlipRel w4 A2 bs.length i wr) (fun _ i _ => bs.length - (intOf i).toNat)
  case atStart => exact FlipRel.start _ _ _
  case round =>
    obtain ⟨k, hk, rfl, hrel⟩ := hrel
    have HREL := Lib.hid hrel
    clear hrel
    by_cases hlt : k < bs.length
    · obtain ⟨g, o, y, rfl, hcell, hfr, hnext⟩ := FlipRel.round HS2q.out hlt HREL.out
      have HN := Lib.hid hnext
      clear hnext
      unfold bv at hcell
      go_wp2_with fail
      go_roundw
      case rel => exact HN.out _
      case measure => simp [intOf]; omega
    · have hgr := FlipRel.grown HREL.out
      obtain rfl : k = bs.length := by omega
      go_wp2_with fail
      have hb5 := hb14.grown hgr hb14.size (fun k hk => by have := own_base HS2q.out hk; have := hb1.size; omega)
      have hs35 := HS3q.out.kept hgr (apart_segs HS2.out HS3.out (Nat.le_refl _))
      have hr5 := HR4.out.kept_lt hgr (fun k hk => by have := own_lt HS2.out hk; omega)
      obtain ⟨w5, hw5⟩ : ∃ w5, w5 = wr := ⟨_, rfl⟩
      rw [← hw5] at hb5 hs35 hr5 ⊢
      have HS35 := Lib.hid hs35
      have HR5 := Lib.hid hr5
      have HB12 := Lib.hid hb12
      have h03 : w.heap.size ≤ w3.heap.size := hb13.size
      clear hw5 hs35 hr5 hgr HREL hb1 hb12 hb13 hb14 hb3' hb4
      go_loopw [8, 44] (fun _ i wr => FlipRel w5 A3 N i wr) (fun _ i _ => N - (intOf i).toNat)
      case atStart => exact FlipRel.start _ _ _
      case round =>
        obtain ⟨k, hk, rfl, hrel⟩ := hrel
        have HREL := Lib.hid hrel
        clear hrel
        by_cases hlt : k < N
        · obtain ⟨g, o, y, rfl, hcell, hfr, hnext⟩ := FlipRel.round HS35.out hlt HREL.out
          have HN := Lib.hid hnext
          clear hnext
          unfold bv at hcell
          go_wp2_with fail
          go_roundw
          case rel => exact HN.out _
          case measure => simp [intOf]; omega
        · have hgr := FlipRel.grown HREL.out
          obtain rfl : k = N := by omega
          go_wp2_with fail
          have hb6 := hb5.grown hgr hb5.size (fun k hk => by have := own_base HS35.out hk; have := HB12.out.size; omega)
          have hr6 := HR5.out.kept_lt hgr (fun k hk => by have := own_lt HS3.out hk; omega)
          have ht6 := Text_any r _ 0 500 _ wr hr6
          rw [rtext_textB' 500 bs (textB bs) (by omega) (by omega)] at ht6
          have HT6 := Lib.hid ht6
          clear hr6 ht6 hgr HREL
          refine HT6.out.mono ?_
          rintro e w7 ⟨A7, c7, rfl, hs7, hr7, hg7, ha7⟩
          have hb7 := hb6.grown hg7 hb6.size (fun k hk => by cases hk; omega)
          have HS7 := Lib.hid hs7
          have HR7 := Lib.hid hr7
          have HA7 := Lib.hid ha7
          clear hs7 hr7 ha7 hg7 hb6
          go_wp2_with fail
          go_loopw [10, 58] (fun _ i wr => FlipRel w7 A7 bs.length i wr) (fun _ i _ => bs.length - (intOf i).toNat)
          case atStart => exact FlipRel.start _ _ _
          case round =>
            obtain ⟨k, hk, rfl, hrel⟩ := hrel
            have HREL := Lib.hid hrel
            clear hrel
            by_cases hlt : k < bs.length
            · obtain ⟨g, o, y, rfl, hcell, hfr, hnext⟩ := FlipRel.round HS7.out hlt HREL.out
              have HN := Lib.hid hnext
              clear hnext
              unfold bv at hcell
              go_wp2_with fail
              go_roundw
              case rel => exact HN.out _
              case measure => simp [intOf]; omega
            · have hgr := FlipRel.grown HREL.out
              obtain rfl : k = bs.length := by omega
              go_wp2_with fail
              have hr8 : Rdr wr w3.heap.size r (textB bs, false) := by
                rcases HREL.out with ⟨_, rfl⟩ | ⟨g, o, vs, hA, hv, rfl⟩
                · exact HR7.out
                · exact HA7.out g o hA vs (by omega)
              have hb8 := hb7.grown hgr hb7.size (fun k hk => by have := own_base HS7.out hk; omega)
              have hr8d := Text_any r _ 0 500 _ wr.drew (hr8.below (Below.refl _ _).drew)
              rw [show rtext 0 500 (textB bs, false) = (bs, ([], false)) from by have := rtext_textB' 500 bs [] (by omega) (by omega); rwa [List.append_nil] at this] at hr8d
              have HT2 := Lib.hid hr8d
              have hkc : ∀ w', Below w.heap.size w w' → (convert 23 9 (.slice A bs.length c)).run Try.prog w' = .ok (.string ⟨bs.toArray⟩) w' := fun w' h => run_string_rd Try.underlying23 Try.underlying5 Try.underlying9 (HR.out.below h)
              have HKC := Lib.hid hkc
              clear hr8 hr8d hkc hgr HREL
              refine wp_region_held_drew (S := fun w' => (convert 23 9 (.slice A bs.length c)).run Try.prog w' = .ok (.string ⟨bs.toArray⟩) w') (by kernel_rfl) (HKC.out _ hb8.drew) (fun hHeld => ?_)
              refine held_yes (i := 0) (v := ?_) rfl (by kernel_rfl) (by kernel_rfl) (by kernel_rfl) (fun _ _ _ h => h) (by rfl) (fun w hSw => ?_) hHeld ?_
              rotate_left
              · (try dsimp only at hSw); go_simp; try with_reducible rfl
              simp only [List.setIfInBounds_toArray, List.set_cons_zero, List.set_cons_succ]
              refine held_yes (i := 1) (v := ?_) rfl (by kernel_rfl) (by kernel_rfl) (by kernel_rfl) (fun _ _ _ h => h) (by rfl) (fun w hSw => ?_) hHeld ?_
              rotate_left
              · (try dsimp only at hSw); go_simp; try with_reducible rfl
              simp only [List.setIfInBounds_toArray, List.set_cons_zero, List.set_cons_succ]
              refine held_yes (i := 2) (v := ?_) rfl (by kernel_rfl) (by kernel_rfl) (by kernel_rfl) (fun _ _ _ h => h) (by rfl) (fun w hSw => ?_) hHeld ?_
              rotate_left
              · (try dsimp only at hSw); go_simp; try with_reducible rfl
              simp only [List.setIfInBounds_toArray, List.set_cons_zero, List.set_cons_succ]
              refine held_yes (i := 3) (v := ?_) rfl (by kernel_rfl) (by kernel_rfl) (by kernel_rfl) (fun _ _ _ h => h) (by rfl) (fun w hSw => ?_) hHeld ?_
              rotate_left
              · (try dsimp only at hSw); go_simp; try with_reducible rfl
              simp only [List.setIfInBounds_toArray, List.set_cons_zero, List.set_cons_succ]
              refine held_yes (i := 6) (v := ?_) rfl (by kernel_rfl) (by kernel_rfl) (by kernel_rfl) (fun _ _ _ h => h) (by rfl) (fun w hSw => ?_) hHeld ?_
              rotate_left
              · (try dsimp only at hSw); go_simp; try with_reducible rfl
              simp only [List.setIfInBounds_toArray, List.set_cons_zero, List.set_cons_succ]
              refine held_yes (i := 7) (v := ?_) rfl (by kernel_rfl) (by kernel_rfl) (by kernel_rfl) (fun _ _ _ h => h) (by rfl) (fun w hSw => ?_) hHeld ?_
              rotate_left
              · (try dsimp only at hSw); go_simp; try with_reducible rfl
              simp only [List.setIfInBounds_toArray, List.set_cons_zero, List.set_cons_succ]
              refine held_only (i := 4) (by kernel_rfl) rfl (fun K hK => ?_)
              -- 4: CALL (*locket/code.Reader).Text
              go_simp
              refine HT2.out.mono ?_
              rintro e w9 ⟨A9, c9, rfl, hs9, hr9, hg9, _⟩
              have kc9 := run_string_rd (P := Try.prog) (src := 23) (dst := 9) Try.underlying23 Try.underlying5 Try.underlying9 hs9.rd
              have HB9 := hb8.drew.grown hg9 hb8.size (fun k hk => by cases hk; omega)
              have HS9 := HKC.out _ HB9
              have HE9 := Lib.hid (End_any r _ _ w9 hr9)
              clear hs9 hr9
              go_wp2_with fail
              refine hK.out _ _ ?_ (fun hHeld => ?_)
              · first | assumption | exact HS9
              clear hK K
              try simp only [Act.put, List.setIfInBounds_toArray, List.set_cons_zero, List.set_cons_succ]
              refine held_only (i := 5) (by kernel_rfl) rfl (fun K hK => ?_)
              -- 5: SIMP
              go_simp
              refine hK.out _ _ ?_ (fun hHeld => ?_)
              · first | assumption | exact HS9
              clear hK K
              try simp only [Act.put, List.setIfInBounds_toArray, List.set_cons_zero, List.set_cons_succ]
              refine held_yes (i := 8) (v := ?_) rfl (by kernel_rfl) (by kernel_rfl) (by kernel_rfl) (fun _ _ _ h => h) (by rfl) (fun w hSw => ?_) hHeld ?_
              rotate_left
              · (try dsimp only at hSw); go_simp; try with_reducible rfl
              simp only [List.setIfInBounds_toArray, List.set_cons_zero, List.set_cons_succ]
              refine held_yes (i := 9) (v := ?_) rfl (by kernel_rfl) (by kernel_rfl) (by kernel_rfl) (fun _ _ _ h => h) (by rfl) (fun w hSw => ?_) hHeld ?_
              rotate_left
              · (try dsimp only at hSw); go_simp; try with_reducible rfl
              simp only [List.setIfInBounds_toArray, List.set_cons_zero, List.set_cons_succ]
              refine held_yes (i := 10) (v := ?_) rfl (by kernel_rfl) (by kernel_rfl) (by kernel_rfl) (fun _ _ _ h => h) (by rfl) (fun w hSw => ?_) hHeld ?_
              rotate_left
              · (try dsimp only at hSw); go_simp; try with_reducible rfl
              simp only [List.setIfInBounds_toArray, List.set_cons_zero, List.set_cons_succ]
              refine held_yes (i := 11) (v := ?_) rfl (by kernel_rfl) (by kernel_rfl) (by kernel_rfl) (fun _ _ _ h => h) (by rfl) (fun w hSw => ?_) hHeld ?_
              rotate_left
              · (try dsimp only at hSw); go_simp; try with_reducible rfl
              simp only [List.setIfInBounds_toArray, List.set_cons_zero, List.set_cons_succ]
              refine held_only (i := 12) (by kernel_rfl) rfl (fun K hK => ?_)
              -- 12: CALL (*locket/code.Reader).End
              go_simp
              refine HE9.out.mono ?_
              rintro e w10 ⟨rfl, rfl⟩
              go_wp2_with fail
              refine hK.out _ _ ?_ (fun hHeld => ?_)
              · first | assumption | exact HS9
              clear hK K
              try simp only [Act.put, List.setIfInBounds_toArray, List.set_cons_zero, List.set_cons_succ]
              refine held_yes (i := 13) (v := ?_) rfl (by kernel_rfl) (by kernel_rfl) (by kernel_rfl) (fun _ _ _ h => h) (by rfl) (fun w hSw => ?_) hHeld ?_
              rotate_left
              · (try dsimp only at hSw); go_simp; try with_reducible rfl
              simp only [List.setIfInBounds_toArray, List.set_cons_zero, List.set_cons_succ]
              refine held_yes (i := 14) (v := ?_) rfl (by kernel_rfl) (by kernel_rfl) (by kernel_rfl) (fun _ _ _ h => h) (by rfl) (fun w hSw => ?_) hHeld ?_
              rotate_left
              · (try dsimp only at hSw); go_simp; try with_reducible rfl
              simp only [List.setIfInBounds_toArray, List.set_cons_zero, List.set_cons_succ]
              refine wpAnyH_done (by kernel_rfl) ?_ _

              go_wp2_with fail
              go_ret
              exact ⟨rfl, HB9⟩

theorem CodeOwn_walk (w : World) (A : Option Addr) (n c : Nat) (bs : List UInt8) (h : RBytes w [.slice A n c] bs) : Calls Try.prog 4 #[.slice A n c] w (Tells w true) := by
  obtain ⟨A', c', he, hr⟩ := h
  simp only [List.cons.injEq, Value.slice.injEq, and_true] at he
  obtain ⟨rfl, rfl, rfl⟩ := he
  by_cases hl : bs.length ≤ 500
  · exact CodeOwn_ok w A c bs hr hl
  · have hmax := hr.max
    have hcap := hr.cap
    unfold maxLen at hmax
    have hl' : (500 : Int) < (bs.length : Int) := by omega
    clear hr
    go_enter Try.func4, Try.ntmps4
    go_wp2_with fail
    refine (anchor8 w).mono ?_
    rintro e w1 ⟨rfl, hb1⟩
    go_wp2_with fail
    go_ret
    exact ⟨rfl, hb1⟩
end Go.Proofs.Ytpcncogmhnncpaa
