/- Law 12: ChainGrows. -/
import Derived.Test.YthpigmkdchnnoaaChP
import Derived.Test.YthpigmkdchnnoaaLkO
namespace Go.Proofs.Ythpigmkdchnnoaa
open Go.RowKit
set_option linter.unusedVariables false
set_option linter.unusedSimpArgs false
set_option maxRecDepth 10000
/-- Heads in a row. -/
def hdC : List (Nat × List UInt8) → List AV
  | [] => []
  | h :: r => [.int .i64 (h.1 : Int), bsA h.2] ++ hdC r
theorem hdC_snoc : ∀ (a : List (Nat × List UInt8)) (h : Nat × List UInt8), hdC (a ++ [h]) = hdC a ++ [.int .i64 (h.1 : Int), bsA h.2]
  | [], t => by simp [hdC]
  | x :: a, t => by simp only [List.cons_append, hdC, hdC_snoc a t, List.append_assoc]
theorem hdC_len : ∀ a : List (Nat × List UInt8), (hdC a).length = a.length * 2
  | [] => rfl
  | x :: a => by simp only [hdC, List.length_append, hdC_len a, List.length_cons, List.length_nil]; omega
theorem hdC_at : ∀ {a : List (Nat × List UInt8)} {k : Nat} {x : Nat × List UInt8}, a[k]? = some x → subF (k * 2) 2 (hdC a) = some [.int .i64 (x.1 : Int), bsA x.2]
  | t :: a, 0, x, h => by
    cases h
    simp only [hdC, List.cons_append, List.nil_append]
    rfl
  | t :: a, k + 1, x, h => by
    have := hdC_at (a := a) (k := k) (x := x) (by simpa using h)
    rw [show (k + 1) * 2 = k * 2 + 1 + 1 by omega]
    simp only [hdC, List.cons_append, List.nil_append]
    exact this
theorem hdC_load {a : List (Nat × List UInt8)} {k : Nat} {x : Nat × List UInt8} (h : a[k]? = some x) : aload true 2 (hdC a) (k * 2) = some (.agg [.int .i64 (x.1 : Int), bsA x.2]) := by
  obtain ⟨h1, h2⟩ := subF_ok (hdC_at h)
  simp only [aload, if_true]
  rw [if_pos h2, h1]
theorem apS_keep {ls ss xs : List (List UInt8)} {x y : List UInt8} {i : Nat} (h : ss[i]? = some y) : (apS ls ss xs x)[i]? = some y := by
  unfold apS
  split
  · rw [List.getElem?_append_left (List.getElem?_eq_some_iff.1 h).1]; exact h
  · exact h
set_option maxHeartbeats 4000000 in
theorem ChainGrows_law (q : List (List UInt8)) (hq : q.length ≤ 9223372036854775807) : ACalls Try.prog 3 [lkA q] ⟨[], [], 0⟩ (fun rv _ => rv = .bool true) := by
  refine ACalls_body Try.func3 rfl rfl ?_
  simp only [Try.ntmps3, List.length_cons, List.length_nil, Nat.reduceAdd, Nat.reduceSub, List.replicate_succ, List.replicate_zero, List.cons_append, List.nil_append]
  have h0 := anchor12_val
  have h1 := small_val q hq
  by_cases h2 : smallL q
  case neg =>
    rw [decide_eq_false h2] at h1
    refine Run ?_ trivial trivial trivial trivial trivial trivial trivial trivial trivial trivial trivial trivial
    rfl
  rw [decide_eq_true h2] at h1
  by_cases h3 : 30 < q.length
  · refine Run ?_ trivial trivial trivial trivial trivial trivial trivial trivial trivial trivial trivial trivial
    rfl
  refine Run ?_ trivial trivial (⟨Try.func12, rfl, rfl⟩ : Inl Try.prog 12 _ _ _) trivial trivial trivial trivial trivial trivial trivial trivial trivial
  refine AOPS_adoptO (nx := 3) 1 3 5 rfl rfl rfl rfl rfl ?_
  have hp : AVal Try.prog 25 [.sl .none [.iface 3 (.int .i64 1)] 1] (okA (numB 1)) := put1_ok 1 (by omega)
  have h4 := first_sys [] 1 (by simp) 1 2 0
  rw [show sumN [] (firstT 1) = 1 from rfl, show sumX [] (firstT 1) = [firstT 1] by simp [sumX]] at h4
  refine Run ?_ trivial trivial (⟨Try.func11, rfl, rfl⟩ : Inl Try.prog 11 _ _ _) trivial trivial trivial trivial RowB.ok trivial trivial trivial trivial
  clear h4 hp
  refine AWP_adO (nx := 6) 4 1 1 rfl rfl rfl rfl rfl ?_
  refine AWP_adOF (nx := 7) 4 2 1 rfl rfl rfl rfl rfl rfl ?_
  refine AWP_adopt 5 2 rfl (by simp only [setF]; rfl) ?_
  refine AWP_loopW [2, 5, 7, 8, 9, 11, 12, 13, 31, 32, 33, 34, 35, 36, 37, 38, 39, 40, 41, 42, 43, 44, 45, 46, 47, 48, 49, 50, 51, 52, 53, 54, 55, 56, 57, 58, 59, 60, 61, 62, 63, 64, 65, 66, 67, 68, 69, 70, 71, 72, 73, 74, 75, 76, 77, 78, 79, 80, 81, 82, 83, 84, 85, 86, 87, 88, 89, 90, 91, 92, 93, 94, 95] (N := Nat × Int × List (List UInt8) × List (List UInt8) × List (List UInt8) × List (Nat × List UInt8) × Nat × List AV) (fun ⟨k, nx, ls, ss, xs, hs, hn, js⟩ => [js.getD 0 .und, .sl (.tok 7 hn 2) (hdC hs) hn, js.getD 1 .und, js.getD 2 .und, js.getD 3 .und, js.getD 4 .und, js.getD 5 .und, js.getD 6 .und, lkA q, .int .i64 (q.length : Int), .int .i64 (k : Int), js.getD 7 .und, js.getD 8 .und, js.getD 9 .und, js.getD 10 .und, js.getD 11 .und, js.getD 12 .und, js.getD 13 .und, js.getD 14 .und, js.getD 15 .und, js.getD 16 .und, js.getD 17 .und, js.getD 18 .und, js.getD 19 .und, js.getD 20 .und, js.getD 21 .und, js.getD 22 .und, js.getD 23 .und, js.getD 24 .und, js.getD 25 .und, js.getD 26 .und, js.getD 27 .und, js.getD 28 .und, js.getD 29 .und, js.getD 30 .und, js.getD 31 .und, js.getD 32 .und, js.getD 33 .und, js.getD 34 .und, js.getD 35 .und, js.getD 36 .und, js.getD 37 .und, js.getD 38 .und, js.getD 39 .und, js.getD 40 .und, js.getD 41 .und, js.getD 42 .und, js.getD 43 .und, js.getD 44 .und, js.getD 45 .und, js.getD 46 .und, js.getD 47 .und, js.getD 48 .und, js.getD 49 .und, js.getD 50 .und, js.getD 51 .und, js.getD 52 .und, js.getD 53 .und, js.getD 54 .und, js.getD 55 .und, js.getD 56 .und, js.getD 57 .und, js.getD 58 .und, js.getD 59 .und, js.getD 60 .und, js.getD 61 .und, js.getD 62 .und, js.getD 63 .und, js.getD 64 .und, js.getD 65 .und, js.getD 66 .und, js.getD 67 .und, js.getD 68 .und]) (fun ⟨k, nx, ls, ss, xs, hs, hn, js⟩ => ⟨[(4, chC ls ss 1 5 6), (1, suX xs 2 0)], [(7, hn), (6, lnT ss), (5, lnT ls), (2, suL xs), (0, suM xs)], nx⟩) (fun ⟨k, nx, ls, ss, xs, hs, hn, js⟩ => 8 ≤ nx ∧ k ≤ q.length ∧ ChOk ls ss xs ∧ ls.length ≤ k ∧ xs.length ≤ k + 1 ∧ hs.length = hn ∧ hn = k ∧ ∀ h ∈ hs, ss[h.1]? = some h.2) (fun ⟨k, nx, ls, ss, xs, hs, hn, js⟩ => q.length - k) ⟨0, 8, [], [signB 72 1], [firstT 1], [], 0, [_, _, _, _, _, _, _, _, _, _, _, _, _, _, _, _, _, _, _, _, _, _, _, _, _, _, _, _, _, _, _, _, _, _, _, _, _, _, _, _, _, _, _, _, _, _, _, _, _, _, _, _, _, _, _, _, _, _, _, _, _, _, _, _, _, _, _, _, _]⟩ rfl ?hs0 ?hi0 ?_
  rotate_left 2
  rintro ⟨k, nx, ls, ss, xs, hs, hn, js⟩ sl_ hs hi
  simp only [setsF, setF, Option.some.injEq] at hs
  subst hs
  case hs0 => exact ASub.refl _
  case hi0 => exact ⟨by omega, by omega, ChOk.ini 1 _ (by simp) 1, by simp, by simp, rfl, rfl, fun h hh => by cases hh⟩
  obtain ⟨hnx, hk, hok, hlen, hxs, hhs, hhn, hall⟩ := hi
  by_cases hlt : k < q.length
  · have hel : q[k]? = some q[k] := List.getElem?_eq_getElem hlt
    have hc : (q.map bsA)[k]? = some (bsA q[k]) := by rw [List.getElem?_map, hel]; rfl
    have hsz := h2.1 q[k] (List.getElem_mem hlt)
    generalize q[k] = x at hel hc hsz
    have hss : ss[ls.length]? = some (ss.getD ls.length []) := by
      have : ls.length < ss.length := by have := hok.len; omega
      rw [List.getD_eq_getElem?_getD, List.getElem?_eq_getElem this]; rfl
    have hsum := hok.sums _ (List.mem_of_getElem? hss)
    have hok' := hok.step x (by omega)
    have hxs' := apX_le ls ss xs x
    have hkeep := apS_keep (ls := ls) (xs := xs) (x := x) hss
    have hall' : ∀ h ∈ hs ++ [(ls.length, ss.getD ls.length [])], (apS ls ss xs x)[h.1]? = some h.2 := by
      intro h hh
      rcases List.mem_append.1 hh with hh | hh
      · exact apS_keep (hall h hh)
      · rw [List.mem_singleton.1 hh]; exact hkeep
    have e1 := head_sys ls ss xs hok 4 1 5 6 2 0
    have e2 := len_sys ls ss xs 4 1 5 6 2 0
    have hsn := hdC_snoc hs (ls.length, ss.getD ls.length [])
    by_cases hx : x.length = 0
    · have e3 := append_at 11 hok (by omega) (show apE ls x = 11 by unfold apE; rw [if_pos (.inl (by omega))]) 4 1 5 6 2 0
      refine Run ?_ trivial trivial trivial trivial trivial trivial trivial trivial trivial trivial trivial trivial
      clear e1 e2 e3
      rw [← hsn]
      have hll := apL_le ls x
      have hl' : (hs ++ [(ls.length, ss.getD ls.length [])]).length = hn + 1 := by simp [hhs]
      generalize hs ++ [(ls.length, ss.getD ls.length [])] = hs' at hall' hl' ⊢
      generalize apS ls ss xs x = ss' at hall' hok' ⊢
      generalize apX ls ss xs x = xs' at hok' hxs' ⊢
      generalize apL ls x = ls' at hok' hll ⊢
      refine AWP_loopW [2, 11, 12, 13, 64, 65, 66, 67, 68, 69, 70, 71, 72, 73, 74, 75, 76, 77, 78, 79, 80, 81, 82, 83, 84, 85, 86, 87, 88, 89, 90, 91, 92, 93, 94] (N := Nat × Int × List AV) (fun ⟨j, nx2, js⟩ => [js.getD 0 .und, js.getD 1 .und, js.getD 2 .und, js.getD 3 .und, .sl (.tok 7 (hn + 1) 2) (hdC hs') (hn + 1), .int .i64 ((hn + 1 : Nat) : Int), .int .i64 (j : Int), js.getD 4 .und, js.getD 5 .und, js.getD 6 .und, js.getD 7 .und, js.getD 8 .und, js.getD 9 .und, js.getD 10 .und, js.getD 11 .und, js.getD 12 .und, js.getD 13 .und, js.getD 14 .und, js.getD 15 .und, js.getD 16 .und, js.getD 17 .und, js.getD 18 .und, js.getD 19 .und, js.getD 20 .und, js.getD 21 .und, js.getD 22 .und, js.getD 23 .und, js.getD 24 .und, js.getD 25 .und, js.getD 26 .und, js.getD 27 .und, js.getD 28 .und, js.getD 29 .und, js.getD 30 .und, js.getD 31 .und]) (fun ⟨j, nx2, js⟩ => ⟨[(4, chC ls' ss' 1 5 6), (1, suX xs' 2 0)], [(7, .top (hn + 1)), (6, lnT ss'), (5, lnT ls'), (2, suL xs'), (0, suM xs')], nx2⟩) (fun ⟨j, nx2, js⟩ => 8 ≤ nx2 ∧ j ≤ hn + 1) (fun ⟨j, nx2, js⟩ => hn + 1 - j) ⟨0, nx, [_, _, _, _, _, _, _, _, _, _, _, _, _, _, _, _, _, _, _, _, _, _, _, _, _, _, _, _, _, _, _, _]⟩ rfl ?hs0 ?hi0 ?_
      rotate_left 2
      rintro ⟨j, nx2, js⟩ sl_ hs hi
      simp only [setsF, setF, Option.some.injEq] at hs
      subst hs
      case hs0 => exact ASub.refl _
      case hi0 => exact ⟨by omega, by omega⟩
      obtain ⟨hnx2, hj⟩ := hi
      by_cases hjt : j < hn + 1
      · obtain ⟨h, hh⟩ : ∃ h, hs'[j]? = some h := ⟨_, List.getElem?_eq_getElem (by omega)⟩
        have hcl := hdC_load hh
        have hin := hall' h (List.mem_of_getElem? hh)
        have hy32 := hok'.sums _ (List.mem_of_getElem? hin)
        have e1 := at_sys ls' ss' xs' hok' (h.1 : Int) 4 1 5 6 2 0
        rw [atR_at hin] at e1
        have e2 := check_ok (i := (h.1 : Int)) (y := h.2) 0 hok' (chkN_in hin) 4 1 5 6 2 0
        refine Run ?_ trivial trivial trivial trivial trivial trivial trivial trivial trivial trivial trivial trivial
        refine ALoopW_normal ⟨j + 1, nx2 + 1 + 1, [_, _, _, _, _, _, _, _, _, _, _, _, _, _, _, _, _, _, _, _, _, _, _, _, _, _, _, _, _, _, _, _]⟩ rfl ?hs1 ?hi1 ?hm1
        case hs1 => exact ((ASub.refl _).drop (by simp only [alook]; rw [if_neg (by omega), if_neg (by omega)])).drop (by simp only [alook]; rw [if_neg (by omega), if_neg (by omega), if_neg (by omega)])
        case hi1 => exact ⟨by omega, by omega⟩
        case hm1 => simp only; omega
      · obtain rfl : j = hn + 1 := by omega
        refine Run ?_ trivial trivial trivial trivial trivial trivial trivial trivial trivial trivial trivial trivial
        refine ALoopW_normal ⟨k + 1, nx2, ls', ss', xs', hs', hn + 1, [_, _, _, _, _, _, _, _, _, _, _, _, _, _, _, _, _, _, _, _, _, _, _, _, _, _, _, _, _, _, _, _, _, _, _, _, _, _, _, _, _, _, _, _, _, _, _, _, _, _, _, _, _, _, _, _, _, _, _, _, _, _, _, _, _, _, _, _, _]⟩ rfl ?hs1 ?hi1 ?hm1
        case hs1 => exact ASub.refl _
        case hi1 => exact ⟨by omega, by omega, hok', by omega, by omega, hl', by omega, hall'⟩
        case hm1 => simp only; omega
    · have hE : apE ls x = 0 := by rw [apE_of (by omega) (by omega), if_neg (by omega)]
      have e3 := append_at 0 hok (by omega) hE 4 1 5 6 2 0
      refine Run ?_ trivial trivial trivial trivial trivial trivial trivial trivial trivial trivial trivial trivial
      clear e1 e2 e3
      have e2 := len_sys (apL ls x) (apS ls ss xs x) (apX ls ss xs x) 4 1 5 6 2 0
      rw [apL_len hE] at e2
      refine Run ?_ trivial trivial trivial trivial trivial trivial trivial trivial trivial trivial trivial trivial
      clear e2
      rw [← hsn]
      have hll := apL_le ls x
      have hl' : (hs ++ [(ls.length, ss.getD ls.length [])]).length = hn + 1 := by simp [hhs]
      generalize hs ++ [(ls.length, ss.getD ls.length [])] = hs' at hall' hl' ⊢
      generalize apS ls ss xs x = ss' at hall' hok' ⊢
      generalize apX ls ss xs x = xs' at hok' hxs' ⊢
      generalize apL ls x = ls' at hok' hll ⊢
      refine AWP_loopW [2, 11, 12, 13, 64, 65, 66, 67, 68, 69, 70, 71, 72, 73, 74, 75, 76, 77, 78, 79, 80, 81, 82, 83, 84, 85, 86, 87, 88, 89, 90, 91, 92, 93, 94] (N := Nat × Int × List AV) (fun ⟨j, nx2, js⟩ => [js.getD 0 .und, js.getD 1 .und, js.getD 2 .und, js.getD 3 .und, .sl (.tok 7 (hn + 1) 2) (hdC hs') (hn + 1), .int .i64 ((hn + 1 : Nat) : Int), .int .i64 (j : Int), js.getD 4 .und, js.getD 5 .und, js.getD 6 .und, js.getD 7 .und, js.getD 8 .und, js.getD 9 .und, js.getD 10 .und, js.getD 11 .und, js.getD 12 .und, js.getD 13 .und, js.getD 14 .und, js.getD 15 .und, js.getD 16 .und, js.getD 17 .und, js.getD 18 .und, js.getD 19 .und, js.getD 20 .und, js.getD 21 .und, js.getD 22 .und, js.getD 23 .und, js.getD 24 .und, js.getD 25 .und, js.getD 26 .und, js.getD 27 .und, js.getD 28 .und, js.getD 29 .und, js.getD 30 .und, js.getD 31 .und]) (fun ⟨j, nx2, js⟩ => ⟨[(4, chC ls' ss' 1 5 6), (1, suX xs' 2 0)], [(7, .top (hn + 1)), (6, lnT ss'), (5, lnT ls'), (2, suL xs'), (0, suM xs')], nx2⟩) (fun ⟨j, nx2, js⟩ => 8 ≤ nx2 ∧ j ≤ hn + 1) (fun ⟨j, nx2, js⟩ => hn + 1 - j) ⟨0, nx, [_, _, _, _, _, _, _, _, _, _, _, _, _, _, _, _, _, _, _, _, _, _, _, _, _, _, _, _, _, _, _, _]⟩ rfl ?hs0 ?hi0 ?_
      rotate_left 2
      rintro ⟨j, nx2, js⟩ sl_ hs hi
      simp only [setsF, setF, Option.some.injEq] at hs
      subst hs
      case hs0 => exact ASub.refl _
      case hi0 => exact ⟨by omega, by omega⟩
      obtain ⟨hnx2, hj⟩ := hi
      by_cases hjt : j < hn + 1
      · obtain ⟨h, hh⟩ : ∃ h, hs'[j]? = some h := ⟨_, List.getElem?_eq_getElem (by omega)⟩
        have hcl := hdC_load hh
        have hin := hall' h (List.mem_of_getElem? hh)
        have hy32 := hok'.sums _ (List.mem_of_getElem? hin)
        have e1 := at_sys ls' ss' xs' hok' (h.1 : Int) 4 1 5 6 2 0
        rw [atR_at hin] at e1
        have e2 := check_ok (i := (h.1 : Int)) (y := h.2) 0 hok' (chkN_in hin) 4 1 5 6 2 0
        refine Run ?_ trivial trivial trivial trivial trivial trivial trivial trivial trivial trivial trivial trivial
        refine ALoopW_normal ⟨j + 1, nx2 + 1 + 1, [_, _, _, _, _, _, _, _, _, _, _, _, _, _, _, _, _, _, _, _, _, _, _, _, _, _, _, _, _, _, _, _]⟩ rfl ?hs1 ?hi1 ?hm1
        case hs1 => exact ((ASub.refl _).drop (by simp only [alook]; rw [if_neg (by omega), if_neg (by omega)])).drop (by simp only [alook]; rw [if_neg (by omega), if_neg (by omega), if_neg (by omega)])
        case hi1 => exact ⟨by omega, by omega⟩
        case hm1 => simp only; omega
      · obtain rfl : j = hn + 1 := by omega
        refine Run ?_ trivial trivial trivial trivial trivial trivial trivial trivial trivial trivial trivial trivial
        refine ALoopW_normal ⟨k + 1, nx2, ls', ss', xs', hs', hn + 1, [_, _, _, _, _, _, _, _, _, _, _, _, _, _, _, _, _, _, _, _, _, _, _, _, _, _, _, _, _, _, _, _, _, _, _, _, _, _, _, _, _, _, _, _, _, _, _, _, _, _, _, _, _, _, _, _, _, _, _, _, _, _, _, _, _, _, _, _, _]⟩ rfl ?hs1 ?hi1 ?hm1
        case hs1 => exact ASub.refl _
        case hi1 => exact ⟨by omega, by omega, hok', by omega, by omega, hl', by omega, hall'⟩
        case hm1 => simp only; omega
  · obtain rfl : k = q.length := by omega
    refine Run ?_ trivial trivial trivial trivial trivial trivial trivial trivial trivial trivial trivial trivial
    rfl
theorem ChainGrows_walk (w : World) (A : Option Addr) (n c : Nat) (l : List (List UInt8)) (hl : RSlice 1 RBytes w [.slice A n c] l) : Calls Try.prog 3 #[.slice A n c] w (Tells w true) := (ChainGrows_law l (RLinks.repsA hl).2).tells (.one (RLinks.repsA hl).1)
end Go.Proofs.Ythpigmkdchnnoaa
