/- Law 12: ChainFull. -/
import Derived.Test.YthpigmkdchnnoaaChP
namespace Go.Proofs.Ythpigmkdchnnoaa
open Go.RowKit
set_option linter.unusedVariables false
set_option linter.unusedSimpArgs false
set_option maxRecDepth 10000
set_option maxHeartbeats 4000000 in
theorem ChainFull_law (n : Int) (hn : (Lit.int .i64 n).wf = true) (b : UInt8) : ACalls Try.prog 4 [.int .i64 n, bvA b] ⟨[], [], 0⟩ (fun rv _ => rv = .bool true) := by
  refine ACalls_body Try.func4 rfl rfl ?_
  simp only [Try.ntmps4, List.length_cons, List.length_nil, Nat.reduceAdd, Nat.reduceSub, List.replicate_succ, List.replicate_zero, List.cons_append, List.nil_append]
  have h0 := anchor12_val
  by_cases h1 : n < 0
  · refine Run ?_ trivial trivial trivial trivial trivial trivial trivial trivial trivial trivial trivial trivial
    rfl
  by_cases h2 : 80 < n
  · refine Run ?_ trivial trivial trivial trivial trivial trivial trivial trivial trivial trivial trivial trivial
    rfl
  refine Run ?_ trivial trivial (⟨Try.func12, rfl, rfl⟩ : Inl Try.prog 12 _ _ _) trivial trivial trivial trivial trivial trivial trivial trivial trivial
  refine AOPS_adoptO (nx := 3) 1 3 5 rfl rfl rfl rfl rfl ?_
  have hp : AVal Try.prog 25 [.sl .none [.iface 3 (.int .i64 1)] 1] (okA (numB 1)) := put1_ok 1 (by omega)
  have h3 := first_sys [] 1 (by simp) 1 2 0
  rw [show sumN [] (firstT 1) = 1 from rfl, show sumX [] (firstT 1) = [firstT 1] by simp [sumX]] at h3
  refine Run ?_ trivial trivial (⟨Try.func11, rfl, rfl⟩ : Inl Try.prog 11 _ _ _) trivial trivial trivial trivial RowB.ok trivial trivial trivial trivial
  clear h3 hp
  refine AWP_adO (nx := 6) 4 1 1 rfl rfl rfl rfl rfl ?_
  refine AWP_adOF (nx := 7) 4 2 1 rfl rfl rfl rfl rfl rfl ?_
  obtain ⟨m, rfl⟩ := Int.eq_ofNat_of_zero_le (show 0 ≤ n by omega)
  refine AWP_loopW [4, 7, 8, 9, 25, 26, 27, 28, 29, 30, 31, 32, 33, 34, 35, 36, 37, 38, 39, 40, 41, 42, 43, 44, 45, 46, 47, 48, 49, 50, 51, 52, 53, 54, 55, 56, 57, 58, 59, 60, 61, 62, 63, 64, 65, 66, 67, 68, 69] (N := Nat × Int × List (List UInt8) × List (List UInt8) × List (List UInt8) × List AV) (fun ⟨k, nx, ls, ss, xs, js⟩ => [js.getD 0 .und, js.getD 1 .und, js.getD 2 .und, js.getD 3 .und, .int .i64 (m : Int), .int .i64 (k : Int), js.getD 4 .und, js.getD 5 .und, js.getD 6 .und, js.getD 7 .und, js.getD 8 .und, js.getD 9 .und, js.getD 10 .und, js.getD 11 .und, js.getD 12 .und, js.getD 13 .und, js.getD 14 .und, js.getD 15 .und, js.getD 16 .und, js.getD 17 .und, js.getD 18 .und, js.getD 19 .und, js.getD 20 .und, js.getD 21 .und, js.getD 22 .und, js.getD 23 .und, js.getD 24 .und, js.getD 25 .und, js.getD 26 .und, js.getD 27 .und, js.getD 28 .und, js.getD 29 .und, js.getD 30 .und, js.getD 31 .und, js.getD 32 .und, js.getD 33 .und, js.getD 34 .und, js.getD 35 .und, js.getD 36 .und, js.getD 37 .und, js.getD 38 .und, js.getD 39 .und, js.getD 40 .und, js.getD 41 .und, js.getD 42 .und, js.getD 43 .und, js.getD 44 .und, js.getD 45 .und, js.getD 46 .und]) (fun ⟨k, nx, ls, ss, xs, js⟩ => ⟨[(4, chC ls ss 1 5 6), (1, suX xs 2 0)], [(6, lnT ss), (5, lnT ls), (2, suL xs), (0, suM xs)], nx⟩) (fun ⟨k, nx, ls, ss, xs, js⟩ => 7 ≤ nx ∧ k ≤ m ∧ ChOk ls ss xs ∧ ls.length = min k 64 ∧ xs.length ≤ k + 1) (fun ⟨k, nx, ls, ss, xs, js⟩ => m - k) ⟨0, 7, [], [signB 72 1], [firstT 1], [_, _, _, _, _, _, _, _, _, _, _, _, _, _, _, _, _, _, _, _, _, _, _, _, _, _, _, _, _, _, _, _, _, _, _, _, _, _, _, _, _, _, _, _, _, _, _]⟩ rfl ?hs0 ?hi0 ?_
  rotate_left 2
  rintro ⟨k, nx, ls, ss, xs, js⟩ sl_ hs hi
  simp only [setsF, setF, Option.some.injEq] at hs
  subst hs
  case hs0 => exact ASub.refl _
  case hi0 => exact ⟨by omega, by omega, ChOk.ini 1 _ (by simp) 1, rfl, by simp⟩
  obtain ⟨hnx, hk, hok, hlen, hxs⟩ := hi
  by_cases hlt : k < m
  · have e1 := head_sys ls ss xs hok 4 1 5 6 2 0
    by_cases h64 : k < 64
    · have e2 : ASys Try.prog 15 [.ptr 4 0, .sl .none [bvA b, bvA (UInt8.ofNat ((k : Int) % 256).toNat)] 2] (.int .i64 0) _ _ := append_at (x := [b, UInt8.ofNat ((k : Int) % 256).toNat]) 0 hok (by simp) (by rw [apE_of (by simp) (by simp), if_neg (by omega)]) 4 1 5 6 2 0
      refine Run ?_ trivial trivial trivial trivial trivial trivial trivial trivial trivial @AV.wk_bvA trivial trivial
      refine ALoopW_normal ⟨k + 1, nx + 1, apL ls [b, UInt8.ofNat ((k : Int) % 256).toNat], apS ls ss xs [b, UInt8.ofNat ((k : Int) % 256).toNat], apX ls ss xs [b, UInt8.ofNat ((k : Int) % 256).toNat], [_, _, _, _, _, _, _, _, _, _, _, _, _, _, _, _, _, _, _, _, _, _, _, _, _, _, _, _, _, _, _, _, _, _, _, _, _, _, _, _, _, _, _, _, _, _, _]⟩ rfl ?hs1 ?hi1 ?hm1
      case hs1 => exact (ASub.refl _).drop (by simp only [alook]; rw [if_neg (by omega), if_neg (by omega)])
      case hi1 =>
        have hE : apE ls [b, UInt8.ofNat ((k : Int) % 256).toNat] = 0 := by rw [apE_of (by simp) (by simp), if_neg (by omega)]
        refine ⟨by omega, by omega, hok.step _ (by omega), by rw [apL_len hE]; omega, ?_⟩
        have := apX_le ls ss xs [b, UInt8.ofNat ((k : Int) % 256).toNat]
        omega
      case hm1 => simp only; omega
    · have e2 : ASys Try.prog 15 [.ptr 4 0, .sl .none [bvA b, bvA (UInt8.ofNat ((k : Int) % 256).toNat)] 2] (.int .i64 33) _ _ := append_no (x := [b, UInt8.ofNat ((k : Int) % 256).toNat]) 33 hok (by simp) (by rw [apE_of (by simp) (by simp), if_pos (by omega)]) (by omega) 4 1 5 6 2 0
      refine Run ?_ trivial trivial trivial trivial trivial trivial trivial trivial trivial @AV.wk_bvA trivial trivial
      refine ALoopW_normal ⟨k + 1, nx + 1, ls, ss, xs, [_, _, _, _, _, _, _, _, _, _, _, _, _, _, _, _, _, _, _, _, _, _, _, _, _, _, _, _, _, _, _, _, _, _, _, _, _, _, _, _, _, _, _, _, _, _, _]⟩ rfl ?hs1 ?hi1 ?hm1
      case hs1 => exact (ASub.refl _).drop (by simp only [alook]; rw [if_neg (by omega), if_neg (by omega)])
      case hi1 => exact ⟨by omega, by omega, hok, by omega, by omega⟩
      case hm1 => simp only; omega
  · obtain rfl : k = m := by omega
    have e1 := len_sys ls ss xs 4 1 5 6 2 0
    refine Run ?_ trivial trivial trivial trivial trivial trivial trivial trivial trivial trivial trivial trivial
    rfl
theorem ChainFull_walk (w : World) (n : Int) (hn : (Lit.int .i64 n).wf = true) (b : Int) (hb : (Lit.int .u8 b).wf = true) : Calls Try.prog 4 #[.int .i64 n, .int .u8 b] w (Tells w true) := by
  have hb' : 0 ≤ b ∧ b ≤ 255 := by
    simp only [Lit.wf, Bool.and_eq_true, decide_eq_true_eq] at hb
    exact ⟨(show IntKind.min .u8 = 0 from rfl) ▸ hb.1, (show IntKind.max .u8 = 255 from rfl) ▸ hb.2⟩
  have he : bvA (UInt8.ofNat b.toNat) = .int .u8 b := by
    unfold bvA
    congr 1
    rw [UInt8.toNat_ofNat']
    omega
  exact (he ▸ ChainFull_law n hn (UInt8.ofNat b.toNat)).tells (.cons Reps_int (.one Reps_int))
end Go.Proofs.Ythpigmkdchnnoaa
