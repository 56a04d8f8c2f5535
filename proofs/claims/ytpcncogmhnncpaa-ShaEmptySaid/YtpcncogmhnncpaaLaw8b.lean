/- The walk of locketlaw08.CodeNumbers: it tells true, whatever the numbers. -/
import Derived.Test.YtpcncogmhnncpaaLaw8a
import Derived.Test.YtpcncogmhnncpaaPlain8
namespace Go.Proofs.Ytpcncogmhnncpaa
open Go.RowKit

theorem putB_num (n : Nat) : putB [.inl (n : Int)] = numB n := by simp [putB, ptB]
theorem put_num_ok (n : Nat) (w : World) (h : n ≤ 1099511627776) :
    Calls Try.prog 22 #[.slice (some ⟨w.heap.size, 0, none⟩) 1 1] (w.alloc (.cells #[.iface 3 (.int .i64 n)] 20))
      fun e w' => ∃ A c, e = .returned (.tuple #[.slice A 6 c, .int .i64 0]) ∧ Seg w' w.heap.size 1 A 6 c (bvs (numB n)) ∧ Below w.heap.size w w' := by
  refine (Put_any [.inl (n : Int)] (some ⟨w.heap.size, 0, none⟩) 1 [.iface 3 (.int .i64 n)] _ (rd_lit w #[.iface 3 (.int .i64 n)] 20 1 1 rfl (by simp [maxLen])) (fun k p v hp hv => by
      match k, hp, hv with
      | 0, hp, hv => simp at hp hv; subst hp; subst hv; rfl
      | k + 1, hp, hv => simp at hp) (by simp)).mono fun e w' hpost => ?_
  have hok := hpost.ok (by simp [putErr, ptErr]; omega)
  rw [putB_num] at hok
  obtain ⟨A, c, rfl, hs, hb⟩ := hok
  exact ⟨A, c, rfl, hs.mono (by simp), ((Below.refl _ _).alloc (Nat.le_refl _) _).trans (hb.mono (by simp))⟩
theorem put_num_bad (n : Int) (w : World) (h : n < 0 ∨ 1099511627776 < n) :
    Calls Try.prog 22 #[.slice (some ⟨w.heap.size, 0, none⟩) 1 1] (w.alloc (.cells #[.iface 3 (.int .i64 n)] 20))
      fun e w' => e = .returned (.tuple #[.slice none 0 0, .int .i64 12]) ∧ Below w.heap.size w w' := by
  refine (Put_any [.inl n] (some ⟨w.heap.size, 0, none⟩) 1 [.iface 3 (.int .i64 n)] _ (rd_lit w #[.iface 3 (.int .i64 n)] 20 1 1 rfl (by simp [maxLen])) (fun k p v hp hv => by
      match k, hp, hv with
      | 0, hp, hv => simp at hp hv; subst hp; subst hv; rfl
      | k + 1, hp, hv => simp at hp) (by simp)).mono fun e w' hpost => ?_
  have he : putErr [.inl n] = 12 := by
    have : ¬ (0 ≤ n ∧ n ≤ 1099511627776) := by omega
    simp [putErr, ptErr, this]
  rcases hpost with ⟨h0, _⟩ | ⟨_, h1, hb⟩
  · rw [he] at h0; cases h0
  · rw [he] at h1
    exact ⟨h1, ((Below.refl _ _).alloc (Nat.le_refl _) _).trans (hb.mono (by simp))⟩

theorem below_next {w w1 w2 : World} (h : Below w.heap.size w w1) (k : Below w1.heap.size w1 w2) : Below w.heap.size w w2 := h.trans (k.mono h.size)

set_option maxHeartbeats 1000000 in
theorem numbers_bad1 (m n least most : Int) (w : World) (h : m < 0 ∨ 1099511627776 < m) :
    Calls Try.prog 7 #[.int .i64 m, .int .i64 n, .int .i64 least, .int .i64 most] w (Tells w true) := by
  go_enter Try.func7, Try.ntmps7
  go_wp2_with fail
  refine (anchor8 w).mono ?_
  rintro e w1 ⟨rfl, hb1⟩
  go_wp2_with fail
  refine (put_num_bad m w1 h).mono ?_
  rintro e w2 ⟨rfl, hb2⟩
  go_wp2_with fail
  by_cases hn : 0 ≤ n ∧ n ≤ 1099511627776
  · obtain ⟨k, rfl⟩ := Int.eq_ofNat_of_zero_le hn.1
    have hk : k ≤ 1099511627776 := by omega
    refine (put_num_ok k w2 hk).mono ?_
    rintro e w3 ⟨A, c, rfl, hs, hb3⟩
    have FIN := Lib.hid (below_next (below_next hb1 hb2) hb3)
    have dk : decide ((k : Int) ≤ 1099511627776) = true := by simp; omega
    clear hs hn hb1 hb2 hb3
    rcases h with h | h
    · go_wp2_with fail
      go_ret
      exact ⟨rfl, FIN.out⟩
    · have d0 : decide (m ≤ 1099511627776) = false := by simp; omega
      go_wp2_with fail
      go_ret
      exact ⟨rfl, FIN.out⟩
  · have hn' : n < 0 ∨ 1099511627776 < n := by omega
    refine (put_num_bad n w2 hn').mono ?_
    rintro e w3 ⟨rfl, hb3⟩
    have FIN := Lib.hid (below_next (below_next hb1 hb2) hb3)
    clear hb1 hb2 hb3 hn
    have dm : m < 0 ∨ decide (m ≤ 1099511627776) = false ∧ 0 ≤ m := by rcases h with h | h; exact .inl h; exact .inr ⟨by simp; omega, by omega⟩
    have dn : n < 0 ∨ decide (n ≤ 1099511627776) = false ∧ 0 ≤ n := by rcases hn' with h | h; exact .inl h; exact .inr ⟨by simp; omega, by omega⟩
    clear h hn'
    rcases dm with h | ⟨h, h'⟩ <;> rcases dn with hn' | ⟨hn', hn''⟩
    all_goals (go_wp2_with fail; go_ret; exact ⟨rfl, FIN.out⟩)

set_option maxHeartbeats 1000000 in
theorem numbers_bad2 (m : Nat) (n least most : Int) (w : World) (hm : m ≤ 1099511627776) (h : n < 0 ∨ 1099511627776 < n) :
    Calls Try.prog 7 #[.int .i64 m, .int .i64 n, .int .i64 least, .int .i64 most] w (Tells w true) := by
  go_enter Try.func7, Try.ntmps7
  go_wp2_with fail
  refine (anchor8 w).mono ?_
  rintro e w1 ⟨rfl, hb1⟩
  go_wp2_with fail
  refine (put_num_ok m w1 hm).mono ?_
  rintro e w2 ⟨A, c, rfl, hs, hb2⟩
  go_wp2_with fail
  refine (put_num_bad n w2 h).mono ?_
  rintro e w3 ⟨rfl, hb3⟩
  have FIN := Lib.hid (below_next (below_next hb1 hb2) hb3)
  have dk : decide ((m : Int) ≤ 1099511627776) = true := by simp; omega
  have dn : n < 0 ∨ decide (n ≤ 1099511627776) = false ∧ 0 ≤ n := by rcases h with h | h; exact .inl h; exact .inr ⟨by simp; omega, by omega⟩
  clear hs hb1 hb2 hb3 h
  rcases dn with h | ⟨h, h'⟩
  all_goals (go_wp2_with fail; go_ret; exact ⟨rfl, FIN.out⟩)

set_option maxHeartbeats 1000000 in
theorem numbers_ok (m n : Nat) (least most : Int) (w : World) (hm : m ≤ 1099511627776) (hn : n ≤ 1099511627776) :
    Calls Try.prog 7 #[.int .i64 m, .int .i64 n, .int .i64 least, .int .i64 most] w (Tells w true) := by
  go_enter Try.func7, Try.ntmps7
  go_wp2_with fail
  refine (anchor8 w).mono ?_
  rintro e w1 ⟨rfl, hb1⟩
  go_wp2_with fail
  refine (put_num_ok m w1 hm).mono ?_
  rintro e w2 ⟨A, c, rfl, hs, hb2⟩
  go_wp2_with fail
  refine (put_num_ok n w2 hn).mono ?_
  rintro e w3 ⟨A', c', rfl, hs', hb3⟩
  have hs3 := Lib.hid (hs.below hb3)
  have hs3' := Lib.hid hs'
  clear hs hs'
  have dm : decide ((m : Int) ≤ 1099511627776) = true := by simp; omega
  have dn : decide ((n : Int) ≤ 1099511627776) = true := by simp; omega
  go_wp2_with fail
  refine (Read_any A c (numB m) w3 hs3.out.rd (by simp [numB])).mono ?_
  rintro e w4 ⟨r, rfl, hr0, hr, hb4⟩
  have hnum := Number_any r _ least most _ w4 hr
  have hrn := rnum_numB m hm least most []
  rw [List.append_nil] at hrn
  rw [hrn] at hnum
  have HN := Lib.hid hnum
  clear hnum hrn hr
  go_wp2_with fail
  refine HN.out.mono ?_
  rintro e w5 ⟨rfl, hr5, hg5⟩
  clear HN
  have hsz : w3.heap.size ≤ r := hr0
  have hne : ∀ {A : Option Addr} {c base : Nat} {xs : List Value}, Seg w3 base 1 A 6 c xs → ∀ a, A = some a → some a.block ≠ some r := fun hs a ha => by have := hs.lt a ha; simp; omega
  have k1 : (convert 23 9 (.slice A 6 c)).run Try.prog w5 = .ok (.string ⟨(numB m).toArray⟩) w5 := run_string_rd Try.underlying23 Try.underlying5 Try.underlying9 ((hs3.out.below hb4).kept hg5 (hne hs3.out)).rd
  have k2 : (convert 23 9 (.slice A' 6 c')).run Try.prog w5 = .ok (.string ⟨(numB n).toArray⟩) w5 := run_string_rd Try.underlying23 Try.underlying5 Try.underlying9 ((hs3'.out.below hb4).kept hg5 (hne hs3'.out)).rd
  have hl := bytesLess_numB m n hm hn
  have h5 : Below w.heap.size w w5 := by
    have h4 := below_next (below_next (below_next hb1 hb2) hb3) hb4
    have h3 := below_next (below_next hb1 hb2) hb3
    exact h4.grown hg5 h4.size (fun k hk => by cases hk; have := h3.size; omega)
  have FIN := Lib.hid h5
  clear hne hs3 hs3' hb1 hb2 hb3 hb4 hg5 h5
  by_cases hc : (m : Int) < least ∨ most < (m : Int)
  · rw [if_pos hc] at hr5 ⊢
    have hbad := Lib.hid (Bad_any r _ _ w5 hr5)
    clear hr5
    rcases hc with hc | hc
    · go_wp2_with fail
      refine hbad.out.mono ?_
      rintro e w6 ⟨rfl, rfl⟩
      go_wp2_with fail
      go_ret
      exact ⟨rfl, FIN.out⟩
    · by_cases hlo : (m : Int) < least
      all_goals
        go_wp2_with fail
        refine hbad.out.mono ?_
        rintro e w6 ⟨rfl, rfl⟩
        go_wp2_with fail
        go_ret
        exact ⟨rfl, FIN.out⟩
  · rw [if_neg hc] at hr5 ⊢
    have hend := Lib.hid (End_any r _ _ w5 hr5)
    have h1 : ¬ (m : Int) < least := by omega
    have h2 : ¬ most < (m : Int) := by omega
    clear hr5 hc
    go_wp2_with fail
    refine hend.out.mono ?_
    rintro e w6 ⟨rfl, rfl⟩
    go_wp2_with fail
    go_ret
    exact ⟨rfl, FIN.out⟩

theorem CodeNumbers_walk (w : World) (m : Int) (_ : (Lit.int .i64 m).wf = true) (n : Int) (_ : (Lit.int .i64 n).wf = true) (least : Int) (_ : (Lit.int .i64 least).wf = true) (most : Int) (_ : (Lit.int .i64 most).wf = true) :
    Calls Try.prog 7 #[.int .i64 m, .int .i64 n, .int .i64 least, .int .i64 most] w (Tells w true) := by
  by_cases hm : 0 ≤ m ∧ m ≤ 1099511627776
  · obtain ⟨j, rfl⟩ := Int.eq_ofNat_of_zero_le hm.1
    by_cases hn : 0 ≤ n ∧ n ≤ 1099511627776
    · obtain ⟨k, rfl⟩ := Int.eq_ofNat_of_zero_le hn.1
      exact numbers_ok j k least most w (by omega) (by omega)
    · exact numbers_bad2 j n least most w (by omega) (by omega)
  · exact numbers_bad1 m n least most w (by omega)
end Go.Proofs.Ytpcncogmhnncpaa
