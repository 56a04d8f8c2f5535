/- Law 12: ChainPlays. -/
import Derived.Test.YthpigmkdchnnoaaChP
import Derived.Test.YthpigmkdchnnoaaChS
import Derived.Test.YthpigmkdchnnoaaRfM
import Derived.Test.YthpigmkdchnnoaaLkO
namespace Go.Proofs.Ythpigmkdchnnoaa
open Go.RowKit
set_option linter.unusedVariables false
set_option linter.unusedSimpArgs false
set_option maxRecDepth 10000
set_option maxHeartbeats 16000000 in
theorem ChainPlays_law (n : Int) (q : List (List UInt8)) (hq : q.length ≤ 9223372036854775807) (i0 : Int) (y0 : List UInt8) (hy0 : y0.length ≤ 9223372036854775807) : ACalls Try.prog 6 [.int .i64 n, lkA q, .int .i64 i0, bsA y0] ⟨[], [], 0⟩ (fun rv _ => rv = .bool true) := by
  refine ACalls_body Try.func6 rfl rfl ?_
  simp only [Try.ntmps6, List.length_cons, List.length_nil, Nat.reduceAdd, Nat.reduceSub, List.replicate_succ, List.replicate_zero, List.cons_append, List.nil_append]
  have h0 := anchor12_val
  have h1 := small_val q hq
  by_cases h2 : smallL q
  case neg =>
    rw [decide_eq_false h2] at h1
    refine RunB ?_ trivial trivial trivial trivial trivial trivial trivial trivial trivial trivial trivial trivial
    rfl
  rw [decide_eq_true h2] at h1
  by_cases g1 : 100 < y0.length
  · refine RunB ?_ trivial trivial trivial trivial trivial trivial trivial trivial trivial trivial trivial trivial
    rfl
  refine RunB ?_ trivial trivial (⟨Try.func12, rfl, rfl⟩ : Inl Try.prog 12 _ _ _) trivial trivial trivial trivial trivial trivial trivial trivial trivial
  refine AOPS_adoptO (nx := 4) 1 3 5 rfl rfl rfl rfl rfl ?_
  refine AOPS_adoptO (nx := 5) 2 0 5 rfl rfl rfl rfl rfl ?_
  by_cases g2 : n < 0 ∨ 1099511627776 < n
  · have p1 := put1_bad n g2
    by_cases g3 : n < 1
    · refine RunB ?_ trivial trivial (⟨Try.func11, rfl, rfl⟩ : Inl Try.prog 11 _ _ _) trivial trivial trivial trivial RowB.ok trivial trivial trivial trivial
      rfl
    · have g4 : 1099511627776 < n := by omega
      refine RunB ?_ trivial trivial (⟨Try.func11, rfl, rfl⟩ : Inl Try.prog 11 _ _ _) trivial trivial trivial trivial RowB.ok trivial trivial trivial trivial
      rfl
  by_cases g3 : n < 1
  · obtain rfl : n = 0 := by omega
    have p1 : AVal Try.prog 25 [.sl .none [.iface 3 (.int .i64 0)] 1] (okA (numB 0)) := put1_ok 0 (by omega)
    refine RunB ?_ trivial trivial (⟨Try.func11, rfl, rfl⟩ : Inl Try.prog 11 _ _ _) trivial trivial trivial trivial RowB.ok trivial trivial trivial trivial
    rfl
  obtain ⟨m, rfl⟩ := Int.eq_ofNat_of_zero_le (show 0 ≤ n by omega)
  have p1 := put1_ok m (by omega)
  have p3 := first_sys [] m (by simp) 1 3 0
  have p4 := refNum_val m (by omega)
  refine RunB ?_ trivial trivial (⟨Try.func11, rfl, rfl⟩ : Inl Try.prog 11 _ _ _) trivial trivial trivial trivial RowB.ok trivial trivial trivial trivial
  clear p1 p3
  have p5 : ASys Try.prog 33 [.ptr 2 0, .sl .none ([.int .u8 108, .int .u8 111, .int .u8 99, .int .u8 107, .int .u8 101, .int .u8 116] ++ (numB m).map bvA) 12] (bsA (signB 72 (sumN [] (firstT m)))) [(2, rtC [] 4, rtC (sumX [] (firstT m)) 4)] [(4, lnT [], lnT (sumX [] (firstT m)))] := rsum_sys [] (firstT m) (by simp) (by simp [firstT, numB]) (fun y hy => by cases hy) 2 4
  refine RunB ?_ trivial trivial (⟨Try.func21, rfl, rfl⟩ : Inl Try.prog 21 _ _ _) trivial trivial trivial trivial trivial trivial trivial trivial trivial
  clear p4 p5
  have l1 : (sumX [] (firstT m)).length ≤ 1 := sumX_le [] _
  have l2 : ∀ y ∈ sumX [] (firstT m), y.length ≤ 1000000 := by
    intro y hy
    rw [show sumX [] (firstT m) = [firstT m] by simp [sumX]] at hy
    rw [List.mem_singleton.1 hy]
    simp [firstT, numB]
  generalize sumX [] (firstT m) = xs0 at l1 l2 ⊢
  generalize sumN [] (firstT m) = n1 at ⊢
  refine AWP_adO (nx := 10) 6 1 1 rfl rfl rfl rfl rfl ?_
  refine AWP_adOF (nx := 11) 6 2 1 rfl rfl rfl rfl rfl rfl ?_
  refine AWP_adO (nx := 12) 8 0 1 rfl rfl rfl rfl rfl ?_
  refine AWP_adOF (nx := 13) 8 1 1 rfl rfl rfl rfl rfl rfl ?_
  refine AWP_loopS [8, 15, 61, 62, 63, 64, 65, 66, 67, 68, 69, 70, 71, 72, 73, 74, 75] (N := Nat × List (List UInt8) × List (List UInt8) × List (List UInt8) × List AV) (fun ⟨k, ls, ss, xs, js⟩ => [js.getD 0 .und, js.getD 1 .und, lkA q, .int .i64 (q.length : Int), .int .i64 (k : Int), js.getD 2 .und, js.getD 3 .und, js.getD 4 .und, js.getD 5 .und, js.getD 6 .und, js.getD 7 .und, js.getD 8 .und, js.getD 9 .und, js.getD 10 .und, js.getD 11 .und, js.getD 12 .und, js.getD 13 .und]) (fun ⟨k, ls, ss, xs, js⟩ => ⟨[(8, rcC ls ss 11 12), (6, chC ls ss 1 9 10), (2, rtC xs 4), (1, suX xs 3 0)], [(12, lnT ss), (11, lnT ls), (10, lnT ss), (9, lnT ls), (7, .top (6 + 6)), (4, lnT xs), (3, suL xs), (0, suM xs)], 13⟩) (fun ⟨k, ls, ss, xs, js⟩ => k ≤ q.length ∧ ChOk ls ss xs ∧ xs.length ≤ k + 1 ∧ ∀ y ∈ xs, y.length ≤ 1000000) (fun ⟨k, ls, ss, xs, js⟩ => q.length - k) ⟨0, [], [signB 72 n1], xs0, [_, _, _, _, _, _, _, _, _, _, _, _, _, _]⟩ rfl rfl ?hi0 ?_
  rotate_left
  rintro ⟨k, ls, ss, xs, js⟩ sl_ hs hi
  simp only [setsF, setF, Option.some.injEq] at hs
  subst hs
  case hi0 => exact ⟨by omega, ChOk.ini 1 _ (by omega) n1, by omega, l2⟩
  clear l1 l2
  obtain ⟨hk, ok1, hxs, htx⟩ := hi
  have hq70 := h2.2
  by_cases hlt : k < q.length
  · have hel : q[k]? = some q[k] := List.getElem?_eq_getElem hlt
    have hc : (q.map bsA)[k]? = some (bsA q[k]) := by rw [List.getElem?_map, hel]; rfl
    have hsz := h2.1 q[k] (List.getElem_mem hlt)
    generalize q[k] = x at hel hc hsz
    have e1 := append_sys ls ss xs x ok1 (by omega) 6 1 9 10 3 0
    have e2 := rappend_sys ls ss xs x ok1 (by omega) htx 8 2 11 12 4
    refine RunB ?_ trivial trivial trivial trivial trivial trivial trivial trivial trivial trivial trivial trivial
    refine ALoopQ_normal ⟨k + 1, apL ls x, apS ls ss xs x, apX ls ss xs x, [_, _, _, _, _, _, _, _, _, _, _, _, _, _]⟩ rfl rfl ?hi1 ?hm1
    case hi1 =>
      have := apX_le ls ss xs x
      exact ⟨by omega, ok1.step x (by omega), by omega, apX_texts ok1 (by omega) htx⟩
    case hm1 => simp only; omega
  obtain rfl : k = q.length := by omega
  have e1 := len_sys ls ss xs 6 1 9 10 3 0
  have e2 := head_sys ls ss xs ok1 6 1 9 10 3 0
  have e3 := check_sys ls ss xs ok1 i0 y0 6 1 9 10 3 0
  have e4 := rcheck_sys ls ss ok1.sums i0 y0 (by omega) 8 11 12
  refine RunB ?_ trivial trivial trivial trivial trivial trivial trivial trivial trivial trivial trivial trivial
  clear e2 e3 e4
  have w1 := ok1.len
  have w2 := ok1.most
  refine AWP_loopW [8, 16, 17, 18, 19, 20, 104, 105, 106, 107, 108, 109, 110, 111, 112, 113, 114, 115, 116, 117, 118, 119, 120, 121, 122, 123, 124, 125, 126, 127, 128, 129, 130, 131, 132, 133, 134, 135, 136, 137, 138, 139, 140, 141, 142, 143, 144, 145, 146, 147, 148, 149, 150, 151, 152, 153, 154, 155, 156, 157, 158, 159, 160, 161, 162, 163, 164, 165, 166, 167, 168, 169, 170, 171, 172, 173, 174, 175, 176, 177, 178, 179, 180, 181, 182, 183, 184, 185, 186, 187, 188, 189, 190, 191, 192, 193, 194, 195] (N := Nat × Int × Int × List AV) (fun ⟨k, nx, i, js⟩ => [js.getD 0 .und, .int .i64 i, js.getD 1 .und, js.getD 2 .und, js.getD 3 .und, js.getD 4 .und, js.getD 5 .und, js.getD 6 .und, js.getD 7 .und, js.getD 8 .und, js.getD 9 .und, js.getD 10 .und, js.getD 11 .und, js.getD 12 .und, js.getD 13 .und, js.getD 14 .und, js.getD 15 .und, js.getD 16 .und, js.getD 17 .und, js.getD 18 .und, js.getD 19 .und, js.getD 20 .und, js.getD 21 .und, js.getD 22 .und, js.getD 23 .und, js.getD 24 .und, js.getD 25 .und, js.getD 26 .und, js.getD 27 .und, js.getD 28 .und, js.getD 29 .und, js.getD 30 .und, js.getD 31 .und, js.getD 32 .und, js.getD 33 .und, js.getD 34 .und, js.getD 35 .und, js.getD 36 .und, js.getD 37 .und, js.getD 38 .und, js.getD 39 .und, js.getD 40 .und, js.getD 41 .und, js.getD 42 .und, js.getD 43 .und, js.getD 44 .und, js.getD 45 .und, js.getD 46 .und, js.getD 47 .und, js.getD 48 .und, js.getD 49 .und, js.getD 50 .und, js.getD 51 .und, js.getD 52 .und, js.getD 53 .und, js.getD 54 .und, js.getD 55 .und, js.getD 56 .und, js.getD 57 .und, js.getD 58 .und, js.getD 59 .und, js.getD 60 .und, js.getD 61 .und, js.getD 62 .und, js.getD 63 .und, js.getD 64 .und, js.getD 65 .und, js.getD 66 .und, js.getD 67 .und, js.getD 68 .und, js.getD 69 .und, js.getD 70 .und, js.getD 71 .und, js.getD 72 .und, js.getD 73 .und, js.getD 74 .und, js.getD 75 .und, js.getD 76 .und, js.getD 77 .und, js.getD 78 .und, js.getD 79 .und, js.getD 80 .und, js.getD 81 .und, js.getD 82 .und, js.getD 83 .und, js.getD 84 .und, js.getD 85 .und, js.getD 86 .und, js.getD 87 .und, js.getD 88 .und, js.getD 89 .und, js.getD 90 .und, js.getD 91 .und, js.getD 92 .und, js.getD 93 .und, js.getD 94 .und, js.getD 95 .und, js.getD 96 .und]) (fun ⟨k, nx, i, js⟩ => ⟨[(8, rcC ls ss 11 12), (6, chC ls ss 1 9 10), (2, rtC xs 4), (1, suX xs 3 0)], [(12, lnT ss), (11, lnT ls), (10, lnT ss), (9, lnT ls), (7, .top (6 + 6)), (4, lnT xs), (3, suL xs), (0, suM xs)], nx⟩) (fun ⟨k, nx, i, js⟩ => 13 ≤ nx ∧ k ≤ ls.length + 3 ∧ i = (k : Int) - 1) (fun ⟨k, nx, i, js⟩ => ls.length + 3 - k) ⟨0, 13, -1, [_, _, _, _, _, _, _, _, _, _, _, _, _, _, _, _, _, _, _, _, _, _, _, _, _, _, _, _, _, _, _, _, _, _, _, _, _, _, _, _, _, _, _, _, _, _, _, _, _, _, _, _, _, _, _, _, _, _, _, _, _, _, _, _, _, _, _, _, _, _, _, _, _, _, _, _, _, _, _, _, _, _, _, _, _, _, _, _, _, _, _, _, _, _, _, _, _]⟩ rfl ?hs0 ?hi0 ?_
  rotate_left 2
  rintro ⟨k, nx, i, js⟩ sl_ hs hi
  simp only [setsF, setF, Option.some.injEq] at hs
  subst hs
  case hs0 => exact ASub.refl _
  case hi0 => exact ⟨by omega, by omega, rfl⟩
  obtain ⟨hnx, hkk, hik⟩ := hi
  by_cases hlt2 : k < ls.length + 3
  case neg =>
    obtain rfl : k = ls.length + 3 := by omega
    refine RunB ?_ trivial trivial trivial trivial trivial trivial trivial trivial trivial trivial trivial trivial
    rfl
  have e2 := at_sys ls ss xs ok1 i 6 1 9 10 3 0
  have e3 := link_sys ls ss xs ok1 i 6 1 9 10 3 0
  by_cases c1 : k = 0 ∨ k = ls.length + 2
  · rw [atR_off (by omega)] at e2
    rw [lkR_off (by omega)] at e3
    rcases c1 with c1 | c1
    · have c2 : i < 0 := by omega
      refine RunB ?_ trivial trivial trivial trivial trivial trivial trivial trivial trivial trivial trivial trivial
      refine ALoopW_normal ⟨k + 1, nx + 1, _, [_, _, _, _, _, _, _, _, _, _, _, _, _, _, _, _, _, _, _, _, _, _, _, _, _, _, _, _, _, _, _, _, _, _, _, _, _, _, _, _, _, _, _, _, _, _, _, _, _, _, _, _, _, _, _, _, _, _, _, _, _, _, _, _, _, _, _, _, _, _, _, _, _, _, _, _, _, _, _, _, _, _, _, _, _, _, _, _, _, _, _, _, _, _, _, _, _]⟩ rfl ?hs1 ?hi1 ?hm1
      case hs1 => exact (ASub.refl _).drop (by simp only [alook]; rw [if_neg (by omega), if_neg (by omega), if_neg (by omega), if_neg (by omega)])
      case hi1 => exact ⟨by omega, by omega, by omega⟩
      case hm1 => simp only; omega
    · have c2 : 0 ≤ i := by omega
      have c3 : (ss.length : Int) ≤ i := by omega
      have c4 : (ls.length : Int) ≤ i := by omega
      refine RunB ?_ trivial trivial trivial trivial trivial trivial trivial trivial trivial trivial trivial trivial
      refine ALoopW_normal ⟨k + 1, nx + 1, _, [_, _, _, _, _, _, _, _, _, _, _, _, _, _, _, _, _, _, _, _, _, _, _, _, _, _, _, _, _, _, _, _, _, _, _, _, _, _, _, _, _, _, _, _, _, _, _, _, _, _, _, _, _, _, _, _, _, _, _, _, _, _, _, _, _, _, _, _, _, _, _, _, _, _, _, _, _, _, _, _, _, _, _, _, _, _, _, _, _, _, _, _, _, _, _, _, _]⟩ rfl ?hs1 ?hi1 ?hm1
      case hs1 => exact (ASub.refl _).drop (by simp only [alook]; rw [if_neg (by omega), if_neg (by omega), if_neg (by omega), if_neg (by omega)])
      case hi1 => exact ⟨by omega, by omega, by omega⟩
      case hm1 => simp only; omega
  have c2 : 0 ≤ i := by omega
  have c3 : i < (ss.length : Int) := by omega
  rw [atR_int c2 c3] at e2
  have e4 := check_ok (i := i) 0 ok1 (chkN_int c2 c3) 6 1 9 10 3 0
  have hc := row_at c2 c3
  generalize ss.getD i.toNat [] = y at e2 e4 hc
  by_cases c5 : k = ls.length + 1
  · rw [lkR_off (by omega)] at e3
    have c4 : (ls.length : Int) ≤ i := by omega
    refine RunB ?_ trivial trivial trivial trivial trivial trivial trivial trivial trivial trivial trivial trivial
    refine ALoopW_normal ⟨k + 1, nx + 1, _, [_, _, _, _, _, _, _, _, _, _, _, _, _, _, _, _, _, _, _, _, _, _, _, _, _, _, _, _, _, _, _, _, _, _, _, _, _, _, _, _, _, _, _, _, _, _, _, _, _, _, _, _, _, _, _, _, _, _, _, _, _, _, _, _, _, _, _, _, _, _, _, _, _, _, _, _, _, _, _, _, _, _, _, _, _, _, _, _, _, _, _, _, _, _, _, _, _]⟩ rfl ?hs1 ?hi1 ?hm1
    case hs1 => exact (ASub.refl _).drop (by simp only [alook]; rw [if_neg (by omega), if_neg (by omega), if_neg (by omega), if_neg (by omega)])
    case hi1 => exact ⟨by omega, by omega, by omega⟩
    case hm1 => simp only; omega
  have c4 : i < (ls.length : Int) := by omega
  rw [lkR_at c2 c4] at e3
  have hc2 := row_at c2 c4
  generalize ls.getD i.toNat [] = z at e3 hc2
  refine RunB ?_ trivial trivial trivial trivial trivial trivial trivial trivial trivial trivial trivial trivial
  refine ALoopW_normal ⟨k + 1, nx + 1, _, [_, _, _, _, _, _, _, _, _, _, _, _, _, _, _, _, _, _, _, _, _, _, _, _, _, _, _, _, _, _, _, _, _, _, _, _, _, _, _, _, _, _, _, _, _, _, _, _, _, _, _, _, _, _, _, _, _, _, _, _, _, _, _, _, _, _, _, _, _, _, _, _, _, _, _, _, _, _, _, _, _, _, _, _, _, _, _, _, _, _, _, _, _, _, _, _, _]⟩ rfl ?hs1 ?hi1 ?hm1
  case hs1 => exact (ASub.refl _).drop (by simp only [alook]; rw [if_neg (by omega), if_neg (by omega), if_neg (by omega), if_neg (by omega)])
  case hi1 => exact ⟨by omega, by omega, by omega⟩
  case hm1 => simp only; omega
theorem ChainPlays_walk (w : World) (x : Int) (hx : (Lit.int .i64 x).wf = true) (A : Option Addr) (n c : Nat) (l : List (List UInt8)) (hl : RSlice 1 RBytes w [.slice A n c] l) (y : Int) (hy : (Lit.int .i64 y).wf = true) (A2 : Option Addr) (n2 c2 : Nat) (s : List UInt8) (hs : RBytes w [.slice A2 n2 c2] s) : Calls Try.prog 6 #[.int .i64 x, .slice A n c, .int .i64 y, .slice A2 n2 c2] w (Tells w true) := (ChainPlays_law x l (RLinks.repsA hl).2 y s hs.len).tells (.cons Reps_int (.cons (RLinks.repsA hl).1 (.cons Reps_int (.one hs.repsA))))
end Go.Proofs.Ythpigmkdchnnoaa
