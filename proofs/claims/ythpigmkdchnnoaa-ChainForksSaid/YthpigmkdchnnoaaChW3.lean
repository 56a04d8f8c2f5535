/- Law 12: ChainForks. -/
import Derived.Test.YthpigmkdchnnoaaChQ
import Derived.Test.YthpigmkdchnnoaaLkO
namespace Go.Proofs.Ythpigmkdchnnoaa
open Go.RowKit
set_option linter.unusedVariables false
set_option linter.unusedSimpArgs false
set_option maxRecDepth 10000
theorem ChOk.few' {ls ss xs xs' : List (List UInt8)} (h : ChOk ls ss xs) (hx : xs'.length ≤ 1000000) : ChOk ls ss xs' := ⟨h.len, h.sums, h.most, h.texts, hx⟩
theorem chkN_out {ss : List (List UInt8)} {i : Nat} {y : List UInt8} (hl : i < ss.length) (h : ss.getD i [] ≠ y) : chkN ss (i : Int) y = 24 := by
  unfold chkN
  rw [if_neg (by omega), if_neg (by omega), Int.toNat_natCast, if_neg h]
theorem chkN_eq {ss : List (List UInt8)} {i : Nat} {y : List UInt8} (hl : i < ss.length) (h : ss.getD i [] = y) : chkN ss (i : Int) y = 0 := by
  unfold chkN
  rw [if_neg (by omega), if_neg (by omega), Int.toNat_natCast, if_pos h]
set_option maxHeartbeats 8000000 in
theorem ChainForks_law (q r : List (List UInt8)) (hq : q.length ≤ 9223372036854775807) (hr : r.length ≤ 9223372036854775807) (m n : Int) : ACalls Try.prog 7 [lkA q, lkA r, .int .i64 m, .int .i64 n] ⟨[], [], 0⟩ (fun rv _ => rv = .bool true) := by
  refine ACalls_body Try.func7 rfl rfl ?_
  simp only [Try.ntmps7, List.length_cons, List.length_nil, Nat.reduceAdd, Nat.reduceSub, List.replicate_succ, List.replicate_zero, List.cons_append, List.nil_append]
  have h0 := anchor12_val
  have h1 := small_val q hq
  by_cases h2 : smallL q
  case neg =>
    rw [decide_eq_false h2] at h1
    refine Run ?_ trivial trivial trivial trivial trivial trivial trivial trivial trivial trivial trivial trivial
    rfl
  rw [decide_eq_true h2] at h1
  have h3 := small_val r hr
  by_cases h4 : smallL r
  case neg =>
    rw [decide_eq_false h4] at h3
    refine Run ?_ trivial trivial trivial trivial trivial trivial trivial trivial trivial trivial trivial trivial
    rfl
  rw [decide_eq_true h4] at h3
  by_cases g1 : 20 < q.length
  · refine Run ?_ trivial trivial trivial trivial trivial trivial trivial trivial trivial trivial trivial trivial
    rfl
  by_cases g2 : 20 < r.length
  · refine Run ?_ trivial trivial trivial trivial trivial trivial trivial trivial trivial trivial trivial trivial
    rfl
  by_cases g3 : m < 1
  · refine Run ?_ trivial trivial trivial trivial trivial trivial trivial trivial trivial trivial trivial trivial
    rfl
  by_cases g4 : 1099511627776 < m
  · refine Run ?_ trivial trivial trivial trivial trivial trivial trivial trivial trivial trivial trivial trivial
    rfl
  by_cases g5 : n < 1
  · refine Run ?_ trivial trivial trivial trivial trivial trivial trivial trivial trivial trivial trivial trivial
    rfl
  by_cases g6 : 1099511627776 < n
  · refine Run ?_ trivial trivial trivial trivial trivial trivial trivial trivial trivial trivial trivial trivial
    rfl
  obtain ⟨m, rfl⟩ := Int.eq_ofNat_of_zero_le (show 0 ≤ m by omega)
  obtain ⟨n, rfl⟩ := Int.eq_ofNat_of_zero_le (show 0 ≤ n by omega)
  refine Run ?_ trivial trivial (⟨Try.func12, rfl, rfl⟩ : Inl Try.prog 12 _ _ _) trivial trivial trivial trivial trivial trivial trivial trivial trivial
  refine AOPS_adoptO (nx := 3) 1 3 5 rfl rfl rfl rfl rfl ?_
  have p1 := put1_ok m (by omega)
  have p2 := put1_ok n (by omega)
  have p3 := first_sys [] m (by simp) 1 2 0
  refine Run ?_ trivial trivial (⟨Try.func11, rfl, rfl⟩ : Inl Try.prog 11 _ _ _) trivial trivial trivial trivial RowB.ok trivial trivial trivial trivial
  clear p3
  have l1 : (sumX [] (firstT m)).length ≤ 1 := sumX_le [] _
  have p3 := first_sys (sumX [] (firstT m)) n (by omega) 1 2 0
  refine Run ?_ trivial trivial (⟨Try.func11, rfl, rfl⟩ : Inl Try.prog 11 _ _ _) trivial trivial trivial trivial RowB.ok trivial trivial trivial trivial
  clear p1 p2 p3
  refine AWP_adO (nx := 8) 4 1 1 rfl rfl rfl rfl rfl ?_
  refine AWP_adOF (nx := 9) 4 2 1 rfl rfl rfl rfl rfl rfl ?_
  refine AWP_adO (nx := 10) 6 1 1 rfl rfl rfl rfl rfl ?_
  refine AWP_adOF (nx := 11) 6 2 1 rfl rfl rfl rfl rfl rfl ?_
  have l2 : (sumX (sumX [] (firstT m)) (firstT n)).length ≤ 2 := by have := sumX_le (sumX [] (firstT m)) (firstT n); omega
  have s1 := (SumsOf.ini [] m).grow (firstT n)
  have s2 := SumsOf.ini (sumX [] (firstT m)) n
  generalize sumX (sumX [] (firstT m)) (firstT n) = xs0 at l2 s1 s2 ⊢
  generalize sumN (sumX [] (firstT m)) (firstT n) = n2 at s2 ⊢
  generalize sumN [] (firstT m) = n1 at s1 ⊢
  refine AWP_loopS [15, 75, 76, 77, 78, 79, 80, 81, 82, 83, 84] (N := Nat × List (List UInt8) × List (List UInt8) × List (List UInt8) × List AV) (fun ⟨k, ls, ss, xs, js⟩ => [js.getD 0 .und, lkA q, .int .i64 (q.length : Int), .int .i64 (k : Int), js.getD 1 .und, js.getD 2 .und, js.getD 3 .und, js.getD 4 .und, js.getD 5 .und, js.getD 6 .und, js.getD 7 .und]) (fun ⟨k, ls, ss, xs, js⟩ => ⟨[(6, chC [] [signB 72 n2] 1 9 10), (4, chC ls ss 1 7 8), (1, suX xs 2 0)], [(10, lnT [signB 72 n2]), (9, lnT []), (8, lnT ss), (7, lnT ls), (2, suL xs), (0, suM xs)], 11⟩) (fun ⟨k, ls, ss, xs, js⟩ => k ≤ q.length ∧ ChOk ls ss xs ∧ SumsOf xs m ls ss ∧ SumsOf xs n [] [signB 72 n2] ∧ xs.length ≤ k + 2) (fun ⟨k, ls, ss, xs, js⟩ => q.length - k) ⟨0, [], [signB 72 n1], xs0, [_, _, _, _, _, _, _, _]⟩ rfl rfl ?hi0 ?_
  rotate_left
  rintro ⟨k, ls, ss, xs, js⟩ sl_ hs hi
  simp only [setsF, setF, Option.some.injEq] at hs
  subst hs
  case hi0 => exact ⟨by omega, ChOk.ini 1 _ (by omega) n1, s1, s2, by omega⟩
  clear l2 s1 s2
  obtain ⟨hk, ok1, s1, s2, hxs⟩ := hi
  by_cases hlt : k < q.length
  · have hel : q[k]? = some q[k] := List.getElem?_eq_getElem hlt
    have hc : (q.map bsA)[k]? = some (bsA q[k]) := by rw [List.getElem?_map, hel]; rfl
    have hsz := h2.1 q[k] (List.getElem_mem hlt)
    generalize q[k] = x at hel hc hsz
    have e1 := append_sys ls ss xs x ok1 (by omega) 4 1 7 8 2 0
    refine Run ?_ trivial trivial trivial trivial trivial trivial trivial trivial trivial trivial trivial trivial
    refine ALoopQ_normal ⟨k + 1, apL ls x, apS ls ss xs x, apX ls ss xs x, [_, _, _, _, _, _, _, _]⟩ rfl rfl ?hi1 ?hm1
    case hi1 =>
      have := apX_le ls ss xs x
      exact ⟨by omega, ok1.step x (by omega), s1.step ok1.len x, s2.growX _ _ _, by omega⟩
    case hm1 => simp only; omega
  obtain rfl : k = q.length := by omega
  refine Run ?_ trivial trivial trivial trivial trivial trivial trivial trivial trivial trivial trivial trivial
  refine AWP_loopS [17, 85, 86, 87, 88, 89, 90, 91, 92, 93, 94] (N := Nat × List (List UInt8) × List (List UInt8) × List (List UInt8) × List AV) (fun ⟨k, ls2, ss2, xs, js⟩ => [js.getD 0 .und, lkA r, .int .i64 (r.length : Int), .int .i64 (k : Int), js.getD 1 .und, js.getD 2 .und, js.getD 3 .und, js.getD 4 .und, js.getD 5 .und, js.getD 6 .und, js.getD 7 .und]) (fun ⟨k, ls2, ss2, xs, js⟩ => ⟨[(6, chC ls2 ss2 1 9 10), (4, chC ls ss 1 7 8), (1, suX xs 2 0)], [(10, lnT ss2), (9, lnT ls2), (8, lnT ss), (7, lnT ls), (2, suL xs), (0, suM xs)], 11⟩) (fun ⟨k, ls2, ss2, xs, js⟩ => k ≤ r.length ∧ ChOk ls2 ss2 xs ∧ ChOk ls ss xs ∧ SumsOf xs m ls ss ∧ SumsOf xs n ls2 ss2 ∧ xs.length ≤ k + 22) (fun ⟨k, ls2, ss2, xs, js⟩ => r.length - k) ⟨0, [], [signB 72 n2], xs, [_, _, _, _, _, _, _, _]⟩ rfl rfl ?hi0 ?_
  rotate_left
  rintro ⟨k, ls2, ss2, xs, js⟩ sl_ hs hi
  simp only [setsF, setF, Option.some.injEq] at hs
  subst hs
  case hi0 => exact ⟨by omega, ChOk.ini 1 _ (by omega) n2, ok1, s1, s2, by omega⟩
  clear ok1 s1 s2 hxs hk
  obtain ⟨hk, ok2, ok1, s1, s2, hxs⟩ := hi
  by_cases hlt : k < r.length
  · have hel : r[k]? = some r[k] := List.getElem?_eq_getElem hlt
    have hc : (r.map bsA)[k]? = some (bsA r[k]) := by rw [List.getElem?_map, hel]; rfl
    have hsz := h4.1 r[k] (List.getElem_mem hlt)
    generalize r[k] = x at hel hc hsz
    have e1 := append_sys ls2 ss2 xs x ok2 (by omega) 6 1 9 10 2 0
    refine Run ?_ trivial trivial trivial trivial trivial trivial trivial trivial trivial trivial trivial trivial
    refine ALoopQ_normal ⟨k + 1, apL ls2 x, apS ls2 ss2 xs x, apX ls2 ss2 xs x, [_, _, _, _, _, _, _, _]⟩ rfl rfl ?hi1 ?hm1
    case hi1 =>
      have := apX_le ls2 ss2 xs x
      exact ⟨by omega, ok2.step x (by omega), ok1.few' (by omega), s1.growX _ _ _, s2.step ok2.len x, by omega⟩
    case hm1 => simp only; omega
  obtain rfl : k = r.length := by omega
  have b0 := fork0 s1 s2 ok1.few (by omega) (by omega)
  have bS := fun k e1 e2 => forkS s1 s2 ok1 ok2 (k := k) e1 e2
  have w1 := ok1.len
  have w2 := ok2.len
  have w3 := ok1.most
  have hmn : ((m : Int) == (n : Int)) = decide (ss.getD 0 [] = ss2.getD 0 []) := by
    by_cases h : m = n
    · rw [decide_eq_true (b0.2 h), h]; simp
    · rw [decide_eq_false (fun g => h (b0.1 g))]
      simp; omega
  refine Run ?_ trivial trivial trivial trivial trivial trivial trivial trivial trivial trivial trivial trivial
  refine AWP_loopW [8, 18, 19, 20, 21, 22, 23, 24, 25, 98, 99, 100, 101, 102, 103, 104, 105, 106, 107, 108, 109, 110, 111, 112, 113, 114, 115, 116, 117, 118, 119, 120, 121, 122, 123, 124, 125, 126, 127, 128, 129, 130, 131, 132, 133, 134, 135, 136, 137, 138, 139, 140, 141, 142, 143, 144, 145, 146, 147, 148, 149, 150, 151, 152] (N := Nat × Int × Bool × List AV) (fun ⟨k, nx, sm, js⟩ => [js.getD 0 .und, .bool sm, .int .i64 (k : Int), js.getD 1 .und, js.getD 2 .und, js.getD 3 .und, js.getD 4 .und, js.getD 5 .und, js.getD 6 .und, js.getD 7 .und, js.getD 8 .und, js.getD 9 .und, js.getD 10 .und, js.getD 11 .und, js.getD 12 .und, js.getD 13 .und, js.getD 14 .und, js.getD 15 .und, js.getD 16 .und, js.getD 17 .und, js.getD 18 .und, js.getD 19 .und, js.getD 20 .und, js.getD 21 .und, js.getD 22 .und, js.getD 23 .und, js.getD 24 .und, js.getD 25 .und, js.getD 26 .und, js.getD 27 .und, js.getD 28 .und, js.getD 29 .und, js.getD 30 .und, js.getD 31 .und, js.getD 32 .und, js.getD 33 .und, js.getD 34 .und, js.getD 35 .und, js.getD 36 .und, js.getD 37 .und, js.getD 38 .und, js.getD 39 .und, js.getD 40 .und, js.getD 41 .und, js.getD 42 .und, js.getD 43 .und, js.getD 44 .und, js.getD 45 .und, js.getD 46 .und, js.getD 47 .und, js.getD 48 .und, js.getD 49 .und, js.getD 50 .und, js.getD 51 .und, js.getD 52 .und, js.getD 53 .und, js.getD 54 .und, js.getD 55 .und, js.getD 56 .und, js.getD 57 .und, js.getD 58 .und, js.getD 59 .und, js.getD 60 .und, js.getD 61 .und]) (fun ⟨k, nx, sm, js⟩ => ⟨[(6, chC ls2 ss2 1 9 10), (4, chC ls ss 1 7 8), (1, suX xs 2 0)], [(10, lnT ss2), (9, lnT ls2), (8, lnT ss), (7, lnT ls), (2, suL xs), (0, suM xs)], nx⟩) (fun ⟨k, nx, sm, js⟩ => 11 ≤ nx ∧ k ≤ min ls.length ls2.length + 1 ∧ sm = decide (ss.getD (k - 1) [] = ss2.getD (k - 1) [])) (fun ⟨k, nx, sm, js⟩ => min ls.length ls2.length + 1 - k) ⟨0, 11, ((m : Int) == (n : Int)), [_, _, _, _, _, _, _, _, _, _, _, _, _, _, _, _, _, _, _, _, _, _, _, _, _, _, _, _, _, _, _, _, _, _, _, _, _, _, _, _, _, _, _, _, _, _, _, _, _, _, _, _, _, _, _, _, _, _, _, _, _, _]⟩ rfl ?hs0 ?hi0 ?_
  rotate_left 2
  rintro ⟨k, nx, sm, js⟩ sl_ hs hi
  simp only [setsF, setF, Option.some.injEq] at hs
  subst hs
  case hs0 => exact ASub.refl _
  case hi0 => exact ⟨by omega, by omega, hmn⟩
  obtain ⟨hnx, hkk, hsm⟩ := hi
  have e1 := len_sys ls ss xs 4 1 7 8 2 0
  have e2 := len_sys ls2 ss2 xs 6 1 9 10 2 0
  by_cases hlt : k < min ls.length ls2.length + 1
  case neg =>
    obtain rfl : k = min ls.length ls2.length + 1 := by omega
    refine Run ?_ trivial trivial trivial trivial trivial trivial trivial trivial trivial trivial trivial trivial
    rfl
  have e3 := at_sys ls2 ss2 xs ok2 (k : Int) 6 1 9 10 2 0
  rw [atR_in (show k < ss2.length by omega)] at e3
  have hy : (ss2.getD k []).length = 32 := ok2.sums _ (by rw [List.getD_eq_getElem?_getD, List.getElem?_eq_getElem (show k < ss2.length by omega)]; exact List.getElem_mem _)
  by_cases hk0 : k = 0
  · subst hk0
    by_cases hd : ss.getD 0 [] = ss2.getD 0 []
    · have hst : sm = true := by rw [hsm]; exact decide_eq_true hd
      subst hst
      have e4 := check_ok (i := ((0 : Nat) : Int)) (y := ss2.getD 0 []) 0 ok1 (chkN_eq (by omega) hd) 4 1 7 8 2 0
      refine Run ?_ trivial trivial trivial trivial trivial trivial trivial trivial trivial trivial trivial trivial
      refine ALoopW_normal ⟨0 + 1, nx + 1, true, [_, _, _, _, _, _, _, _, _, _, _, _, _, _, _, _, _, _, _, _, _, _, _, _, _, _, _, _, _, _, _, _, _, _, _, _, _, _, _, _, _, _, _, _, _, _, _, _, _, _, _, _, _, _, _, _, _, _, _, _, _, _]⟩ rfl ?hs1 ?hi1 ?hm1
      case hs1 => exact (ASub.refl _).drop (by simp only [alook]; rw [if_neg (by omega), if_neg (by omega), if_neg (by omega)])
      case hi1 => exact ⟨by omega, by omega, (decide_eq_true hd).symm⟩
      case hm1 => simp only; omega
    · have hst : sm = false := by rw [hsm]; exact decide_eq_false hd
      subst hst
      have e4 := check_ok (i := ((0 : Nat) : Int)) (y := ss2.getD 0 []) 24 ok1 (chkN_out (by omega) hd) 4 1 7 8 2 0
      refine Run ?_ trivial trivial trivial trivial trivial trivial trivial trivial trivial trivial trivial trivial
      refine ALoopW_normal ⟨0 + 1, nx + 1, false, [_, _, _, _, _, _, _, _, _, _, _, _, _, _, _, _, _, _, _, _, _, _, _, _, _, _, _, _, _, _, _, _, _, _, _, _, _, _, _, _, _, _, _, _, _, _, _, _, _, _, _, _, _, _, _, _, _, _, _, _, _, _]⟩ rfl ?hs1 ?hi1 ?hm1
      case hs1 => exact (ASub.refl _).drop (by simp only [alook]; rw [if_neg (by omega), if_neg (by omega), if_neg (by omega)])
      case hi1 => exact ⟨by omega, by omega, (decide_eq_false hd).symm⟩
      case hm1 => simp only; omega
  have e5 := link_sys ls ss xs ok1 ((k : Int) - 1) 4 1 7 8 2 0
  have e6 := link_sys ls2 ss2 xs ok2 ((k : Int) - 1) 6 1 9 10 2 0
  have ht : ((k : Int) - 1).toNat = k - 1 := by omega
  rw [lkR_at (by omega) (by omega), ht] at e5 e6
  have hf := bS (k - 1) (by omega) (by omega)
  rw [show k - 1 + 1 = k by omega] at hf
  have hk1 : (ss.getD (k + 1 - 1) [] = ss2.getD (k + 1 - 1) []) = (ss.getD k [] = ss2.getD k []) := by rw [Nat.add_sub_cancel]
  cases sm with
  | true =>
    have hprev : ss.getD (k - 1) [] = ss2.getD (k - 1) [] := of_decide_eq_true hsm.symm
    by_cases hz : ls.getD (k - 1) [] = ls2.getD (k - 1) []
    · have hd := hf.2 ⟨hprev, hz⟩
      have e4 := check_ok (i := (k : Int)) (y := ss2.getD k []) 0 ok1 (chkN_eq (by omega) hd) 4 1 7 8 2 0
      refine Run ?_ trivial trivial trivial trivial trivial trivial trivial trivial trivial trivial trivial trivial
      refine ALoopW_normal ⟨k + 1, nx + 1, true, [_, _, _, _, _, _, _, _, _, _, _, _, _, _, _, _, _, _, _, _, _, _, _, _, _, _, _, _, _, _, _, _, _, _, _, _, _, _, _, _, _, _, _, _, _, _, _, _, _, _, _, _, _, _, _, _, _, _, _, _, _, _]⟩ rfl ?hs1 ?hi1 ?hm1
      case hs1 => exact (ASub.refl _).drop (by simp only [alook]; rw [if_neg (by omega), if_neg (by omega), if_neg (by omega)])
      case hi1 => exact ⟨by omega, by omega, (decide_eq_true hd).symm⟩
      case hm1 => simp only; omega
    · have hd : ¬ ss.getD k [] = ss2.getD k [] := fun h => hz (hf.1 h).2
      have e4 := check_ok (i := (k : Int)) (y := ss2.getD k []) 24 ok1 (chkN_out (by omega) hd) 4 1 7 8 2 0
      refine Run ?_ trivial trivial trivial trivial trivial trivial trivial trivial trivial trivial trivial trivial
      refine ALoopW_normal ⟨k + 1, nx + 1, false, [_, _, _, _, _, _, _, _, _, _, _, _, _, _, _, _, _, _, _, _, _, _, _, _, _, _, _, _, _, _, _, _, _, _, _, _, _, _, _, _, _, _, _, _, _, _, _, _, _, _, _, _, _, _, _, _, _, _, _, _, _, _]⟩ rfl ?hs1 ?hi1 ?hm1
      case hs1 => exact (ASub.refl _).drop (by simp only [alook]; rw [if_neg (by omega), if_neg (by omega), if_neg (by omega)])
      case hi1 => exact ⟨by omega, by omega, (decide_eq_false hd).symm⟩
      case hm1 => simp only; omega
  | false =>
    have hprev : ¬ ss.getD (k - 1) [] = ss2.getD (k - 1) [] := of_decide_eq_false hsm.symm
    have hd : ¬ ss.getD k [] = ss2.getD k [] := fun h => hprev (hf.1 h).1
    have e4 := check_ok (i := (k : Int)) (y := ss2.getD k []) 24 ok1 (chkN_out (by omega) hd) 4 1 7 8 2 0
    refine Run ?_ trivial trivial trivial trivial trivial trivial trivial trivial trivial trivial trivial trivial
    refine ALoopW_normal ⟨k + 1, nx + 1, false, [_, _, _, _, _, _, _, _, _, _, _, _, _, _, _, _, _, _, _, _, _, _, _, _, _, _, _, _, _, _, _, _, _, _, _, _, _, _, _, _, _, _, _, _, _, _, _, _, _, _, _, _, _, _, _, _, _, _, _, _, _, _]⟩ rfl ?hs1 ?hi1 ?hm1
    case hs1 => exact (ASub.refl _).drop (by simp only [alook]; rw [if_neg (by omega), if_neg (by omega), if_neg (by omega)])
    case hi1 => exact ⟨by omega, by omega, (decide_eq_false hd).symm⟩
    case hm1 => simp only; omega
theorem ChainForks_walk (w : World) (A : Option Addr) (n c : Nat) (l : List (List UInt8)) (hl : RSlice 1 RBytes w [.slice A n c] l) (A2 : Option Addr) (n2 c2 : Nat) (l2 : List (List UInt8)) (hl2 : RSlice 1 RBytes w [.slice A2 n2 c2] l2) (x : Int) (hx : (Lit.int .i64 x).wf = true) (y : Int) (hy : (Lit.int .i64 y).wf = true) : Calls Try.prog 7 #[.slice A n c, .slice A2 n2 c2, .int .i64 x, .int .i64 y] w (Tells w true) := (ChainForks_law l l2 (RLinks.repsA hl).2 (RLinks.repsA hl2).2 x y).tells (.cons (RLinks.repsA hl).1 (.cons (RLinks.repsA hl2).1 (.cons Reps_int (.one Reps_int))))
end Go.Proofs.Ythpigmkdchnnoaa
