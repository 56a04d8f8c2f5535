/- Law 12: ChainOwn. -/
import Derived.Test.YthpigmkdchnnoaaChP
import Derived.Test.YthpigmkdchnnoaaChX
import Derived.Test.YthpigmkdchnnoaaLkO
namespace Go.Proofs.Ythpigmkdchnnoaa
open Go.RowKit
set_option linter.unusedVariables false
set_option linter.unusedSimpArgs false
set_option maxRecDepth 10000
theorem clone_buf1 (l : List UInt8) (h0 : 0 < l.length) (hm : l.length ≤ 1000000) : ABuf Try.prog 27 [bsA l] (fun b => b) (l.map bvA) l.length 1 := by
  refine ABuf.mkr (by simp [AV.shutL, bsA_shut]) (shutL_bvA _) BufR.id ?_
  refine ACalls_body Try.func27 rfl rfl ?_
  simp only [Try.ntmps27, List.length_cons, List.length_nil, Nat.reduceAdd, Nat.reduceSub, List.replicate_succ, List.replicate_zero, List.cons_append, List.nil_append]
  refine Run ?_ trivial trivial trivial trivial trivial trivial trivial trivial OwnB.ok trivial trivial trivial
  with_reducible apply S_eqnil_sl
  case hx => rfl
  case hy => rfl
  case h0 => exact h0
  case hs => exact aput_ok rfl
  refine Run ?_ trivial trivial trivial trivial trivial trivial trivial trivial OwnB.ok trivial trivial trivial
  with_reducible apply B_append_full
  case hx => rfl
  case hy => rfl
  case hS => exact SrcS.of (SrcOk_sl inferInstance (by simp) (bvA_ones l))
  case h0 => exact h0
  case hb => constructor <;> omega
  intro j
  refine Run ?_ trivial trivial trivial trivial trivial trivial trivial trivial OwnB.ok trivial trivial trivial
  exact ⟨_, j, List.replicate (j * 1) .any, by omega, by simp, rfl, rfl⟩
set_option maxHeartbeats 8000000 in
theorem ChainOwn_law (b : List UInt8) (hb : b.length ≤ 9223372036854775807) : ACalls Try.prog 8 [bsA b] ⟨[], [], 0⟩ (fun rv _ => rv = .bool true) := by
  refine ACalls_body Try.func8 rfl rfl ?_
  simp only [Try.ntmps8, List.length_cons, List.length_nil, Nat.reduceAdd, Nat.reduceSub, List.replicate_succ, List.replicate_zero, List.cons_append, List.nil_append]
  have h0 := anchor12_val
  by_cases g1 : b.length < 1
  · refine Run ?_ trivial trivial trivial trivial trivial trivial trivial trivial trivial trivial trivial trivial
    rfl
  by_cases g2 : 300 < b.length
  · refine Run ?_ trivial trivial trivial trivial trivial trivial trivial trivial trivial trivial trivial trivial
    rfl
  refine Run ?_ trivial trivial (⟨Try.func12, rfl, rfl⟩ : Inl Try.prog 12 _ _ _) trivial trivial trivial trivial trivial trivial trivial trivial trivial
  refine AOPS_adoptO (nx := 3) 1 3 5 rfl rfl rfl rfl rfl ?_
  have hp : AVal Try.prog 25 [.sl .none [.iface 3 (.int .i64 1)] 1] (okA (numB 1)) := put1_ok 1 (by omega)
  have h4 := first_sys [] 1 (by simp) 1 2 0
  rw [show sumN [] (firstT 1) = 1 from rfl, show sumX [] (firstT 1) = [firstT 1] by simp [sumX]] at h4
  refine Run ?_ trivial trivial (⟨Try.func11, rfl, rfl⟩ : Inl Try.prog 11 _ _ _) trivial trivial trivial trivial RowB.ok OwnB.ok trivial trivial trivial
  clear h4 hp
  refine AOPS_freeze (t := 30) (id := 5) (sz := 1) rfl rfl (fun _ => rfl) rfl rfl ?_
  dsimp only [adel]
  with_reducible apply B_append_full
  case hx => rfl
  case hy => rfl
  case hS => exact SrcS.of (SrcOk_sl inferInstance (by simp) (bvA_ones b))
  case h0 => omega
  case hb => constructor <;> omega
  intro j
  rw [show List.map bvA b ++ List.replicate (j * 1) AV.any = bufC b j by simp [bufC, anys]]
  refine AOPS_put rfl ?_
  change AOPS _ _ _ _ ⟨_, _, 7⟩ _
  refine AOPS_adoptO (nx := 8) 4 1 1 rfl rfl rfl rfl rfl ?_
  refine AOPS_adoptOF (nx := 9) 4 2 1 rfl rfl rfl rfl rfl rfl ?_
  have ok0 : ChOk [] [signB 72 1] [firstT 1] := ChOk.dec rfl
  have e1 : ASys Try.prog 15 [.ptr 4 0, .buf 6 0 b.length (b.length + j)] (.int .i64 0) _ _ := appendB_sys [] [signB 72 1] [firstT 1] b j ok0 (by omega) (by omega) (by simp) 4 1 6 7 8 2 0
  have ok1 : ChOk ([] ++ [b]) ([signB 72 1] ++ [signB 72 (sumN [firstT 1] (apT [] [signB 72 1] b))]) (sumX [firstT 1] (apT [] [signB 72 1] b)) := by
    have hE : apE [] b = 0 := by rw [apE_of (by omega) (by omega), if_neg (by simp)]
    have := ok0.step b (by simp)
    unfold apL apS apX at this
    rw [if_pos hE, if_pos hE, if_pos hE] at this
    exact this
  generalize sumX [firstT 1] (apT [] [signB 72 1] b) = xs at e1 ok1
  generalize sumN [firstT 1] (apT [] [signB 72 1] b) = n2 at e1 ok1
  have e2 : ASys Try.prog 13 [.ptr 4 0] (hdA 1 (signB 72 n2)) _ _ := head_sys _ _ xs ok1 4 1 7 8 2 0
  refine Run ?_ trivial trivial trivial trivial trivial trivial trivial trivial OwnB.ok trivial trivial trivial
  refine AWP_loopS [7, 45, 46, 47, 48, 49, 50, 51, 52, 53, 54, 55, 56] (N := Nat × List AV × List AV) (fun ⟨k, cs, js⟩ => [js.getD 0 .und, .buf 6 0 b.length (b.length + j), .int .i64 (b.length : Int), .int .i64 (k : Int), js.getD 1 .und, js.getD 2 .und, js.getD 3 .und, js.getD 4 .und, js.getD 5 .und, js.getD 6 .und, js.getD 7 .und, js.getD 8 .und, js.getD 9 .und]) (fun ⟨k, cs, js⟩ => ⟨[(6, cs), (4, chC ([] ++ [b]) ([signB 72 1] ++ [signB 72 n2]) 1 7 8), (1, suX xs 2 0)], [(8, lnT ([signB 72 1] ++ [signB 72 n2])), (7, lnT ([] ++ [b])), (2, suL xs), (0, suM xs)], 9⟩) (fun ⟨k, cs, js⟩ => k ≤ b.length ∧ cs.length = b.length + j ∧ ∀ i, k ≤ i → i < b.length → cs[i]? = some (bvA (b.getD i 0))) (fun ⟨k, cs, js⟩ => b.length - k) ⟨0, bufC b j, [_, _, _, _, _, _, _, _, _, _]⟩ rfl rfl ?hi0 ?_
  rotate_left
  rintro ⟨k, cs, js⟩ sl_ hs hi
  simp only [setsF, setF, Option.some.injEq] at hs
  subst hs
  case hi0 =>
    refine ⟨by omega, bufC_len b j, fun i _ hi => ?_⟩
    rw [bufC, List.getElem?_append_left (by simpa using hi), List.getElem?_map, List.getElem?_eq_getElem hi, List.getD_eq_getElem?_getD, List.getElem?_eq_getElem hi]
    rfl
  obtain ⟨hk, hcl, hcs⟩ := hi
  by_cases hlt : k < b.length
  · have hc : cs[k]? = some (bvA (b.getD k 0)) := hcs k (Nat.le_refl _) hlt
    have hle : k < cs.length := by omega
    refine Run ?_ trivial trivial trivial trivial trivial trivial trivial trivial trivial trivial trivial trivial
    refine ALoopQ_normal ⟨k + 1, _, [_, _, _, _, _, _, _, _, _, _]⟩ rfl rfl ?hi1 ?hm1
    case hi1 =>
      refine ⟨by omega, by rw [List.length_set]; exact hcl, fun i h1 h2 => ?_⟩
      rw [List.getElem?_set_ne (by omega)]
      exact hcs i (by omega) h2
    case hm1 => simp only; omega
  obtain rfl : k = b.length := by omega
  clear hcs hlt hk
  refine Run ?_ trivial trivial (⟨Try.func24, rfl, rfl⟩ : Inl Try.prog 24 _ _ _) trivial trivial trivial trivial trivial OwnB.ok trivial trivial trivial
  with_reducible apply R_call_k
  case hf => rfl
  case ha => rfl
  case hc => exact (fun vs w => by kernel_rfl)
  case h => exact clone_buf1 b (by omega) (by omega) _
  rintro _ _ ⟨j2, rfl, rfl⟩
  rw [show List.map bvA b ++ anys (j2 * 1) = bufC b j2 by rw [Nat.mul_one]; rfl]
  dsimp only
  change AOPS _ _ _ _ ⟨_, _, 10⟩ _
  refine Run ?_ trivial trivial trivial trivial trivial trivial trivial trivial OwnB.ok trivial trivial trivial
  refine AWP_loopS [10, 62, 63, 64, 65, 66, 67, 68, 69, 70, 71, 72, 73] (N := Nat × List AV × List AV) (fun ⟨k, cs2, js⟩ => [js.getD 0 .und, .buf 9 0 b.length (b.length + j2), .int .i64 (b.length : Int), .int .i64 (k : Int), js.getD 1 .und, js.getD 2 .und, js.getD 3 .und, js.getD 4 .und, js.getD 5 .und, js.getD 6 .und, js.getD 7 .und, js.getD 8 .und, js.getD 9 .und]) (fun ⟨k, cs2, js⟩ => ⟨[(9, cs2), (6, cs), (4, chC ([] ++ [b]) ([signB 72 1] ++ [signB 72 n2]) 1 7 8), (1, suX xs 2 0)], [(8, lnT ([signB 72 1] ++ [signB 72 n2])), (7, lnT ([] ++ [b])), (2, suL xs), (0, suM xs)], 10⟩) (fun ⟨k, cs2, js⟩ => k ≤ b.length ∧ cs2.length = b.length + j2 ∧ ∀ i, k ≤ i → i < b.length → cs2[i]? = some (bvA (b.getD i 0))) (fun ⟨k, cs2, js⟩ => b.length - k) ⟨0, bufC b j2, [_, _, _, _, _, _, _, _, _, _]⟩ rfl rfl ?hi0 ?_
  rotate_left
  rintro ⟨k, cs2, js⟩ sl_ hs hi
  simp only [setsF, setF, Option.some.injEq] at hs
  subst hs
  case hi0 =>
    refine ⟨by omega, bufC_len b j2, fun i _ hi => ?_⟩
    rw [bufC, List.getElem?_append_left (by simpa using hi), List.getElem?_map, List.getElem?_eq_getElem hi, List.getD_eq_getElem?_getD, List.getElem?_eq_getElem hi]
    rfl
  obtain ⟨hk, hcl2, hcs⟩ := hi
  by_cases hlt : k < b.length
  · have hc : cs2[k]? = some (bvA (b.getD k 0)) := hcs k (Nat.le_refl _) hlt
    have hle : k < cs2.length := by omega
    refine Run ?_ trivial trivial trivial trivial trivial trivial trivial trivial trivial trivial trivial trivial
    refine ALoopQ_normal ⟨k + 1, _, [_, _, _, _, _, _, _, _, _, _]⟩ rfl rfl ?hi1 ?hm1
    case hi1 =>
      refine ⟨by omega, by rw [List.length_set]; exact hcl2, fun i h1 h2 => ?_⟩
      rw [List.getElem?_set_ne (by omega)]
      exact hcs i (by omega) h2
    case hm1 => simp only; omega
  obtain rfl : k = b.length := by omega
  clear hcs hlt hk
  have e3 := len_sys [b] [signB 72 1, signB 72 n2] xs 4 1 7 8 2 0
  rw [show ((([b] : List (List UInt8)).length : Nat) : Int) = 1 from rfl] at e3
  clear e1 e2
  refine Run ?_ trivial trivial (⟨Try.func13, rfl, rfl⟩ : Inl Try.prog 13 _ _ _) (⟨Try.func16, rfl, rfl⟩ : Inl Try.prog 16 _ _ _) trivial trivial trivial trivial OwnB.ok trivial trivial trivial
  with_reducible apply R_call_k
  case hf => rfl
  case ha => rfl
  case hc => exact (fun vs w => by kernel_rfl)
  case h => exact clone_buf1 (signB 72 n2) (by rw [signB_len]; omega) (by rw [signB_len]; omega) _
  rintro _ _ ⟨j3, rfl, rfl⟩
  rw [show List.map bvA (signB 72 n2) ++ anys (j3 * 1) = bufC (signB 72 n2) j3 by rw [Nat.mul_one]; rfl]
  dsimp only
  change AOPS _ _ _ _ ⟨_, _, 13⟩ _
  clear e3
  refine Run ?_ trivial trivial trivial trivial trivial trivial trivial trivial OwnB.ok trivial trivial trivial
  have hl32 := signB_len 72 n2
  generalize signB 72 n2 = y at ok1 hl32 ⊢
  refine AWP_loopS [12, 77, 78, 79, 80, 81, 82, 83, 84, 85, 86, 87, 88, 89] (N := Nat × List AV × List AV) (fun ⟨k, cs3, js⟩ => [js.getD 0 .und, .buf 12 0 y.length (y.length + j3), .int .i64 (y.length : Int), .int .i64 (k : Int), js.getD 1 .und, js.getD 2 .und, js.getD 3 .und, js.getD 4 .und, js.getD 5 .und, js.getD 6 .und, js.getD 7 .und, js.getD 8 .und, js.getD 9 .und, js.getD 10 .und]) (fun ⟨k, cs3, js⟩ => ⟨[(14, [.int .i64 1, .buf 12 0 y.length (y.length + j3)]), (13, [.int .i64 1, .buf 12 0 y.length (y.length + j3)]), (12, cs3), (11, [.int .i64 1, .buf 12 0 y.length (y.length + j3)]), (10, [.int .i64 1, .buf 12 0 y.length (y.length + j3)]), (9, cs2), (6, cs), (4, chC [b] [signB 72 1, y] 1 7 8), (1, suX xs 2 0)], [(8, lnT [signB 72 1, y]), (7, lnT [b]), (2, suL xs), (0, suM xs)], 15⟩) (fun ⟨k, cs3, js⟩ => k ≤ y.length ∧ cs3.length = y.length + j3 ∧ ∀ i, k ≤ i → i < y.length → cs3[i]? = some (bvA (y.getD i 0))) (fun ⟨k, cs3, js⟩ => y.length - k) ⟨0, bufC y j3, [_, _, _, _, _, _, _, _, _, _, _]⟩ rfl rfl ?hi0 ?_
  rotate_left
  rintro ⟨k, cs3, js⟩ sl_ hs hi
  simp only [setsF, setF, Option.some.injEq] at hs
  subst hs
  case hi0 =>
    refine ⟨by omega, bufC_len y j3, fun i _ hi => ?_⟩
    rw [bufC, List.getElem?_append_left (by simpa using hi), List.getElem?_map, List.getElem?_eq_getElem hi, List.getD_eq_getElem?_getD, List.getElem?_eq_getElem hi]
    rfl
  obtain ⟨hk, hcl3, hcs⟩ := hi
  by_cases hlt : k < y.length
  · have hc : cs3[k]? = some (bvA (y.getD k 0)) := hcs k (Nat.le_refl _) hlt
    have hle : k < cs3.length := by omega
    refine Run ?_ trivial trivial trivial trivial trivial trivial trivial trivial trivial trivial trivial trivial
    refine ALoopQ_normal ⟨k + 1, _, [_, _, _, _, _, _, _, _, _, _, _]⟩ rfl rfl ?hi1 ?hm1
    case hi1 =>
      refine ⟨by omega, by rw [List.length_set]; exact hcl3, fun i h1 h2 => ?_⟩
      rw [List.getElem?_set_ne (by omega)]
      exact hcs i (by omega) h2
    case hm1 => simp only; omega
  obtain rfl : k = y.length := by omega
  clear hcs hlt hk
  have e1 : ASys Try.prog 24 [.ptr 4 0, .int .i64 0] (.tup [bsA b, .bool true]) _ _ := link_sys [b] [signB 72 1, y] xs ok1 0 4 1 7 8 2 0
  have e2 : ASys Try.prog 13 [.ptr 4 0] (hdA 1 y) _ _ := head_sys [b] [signB 72 1, y] xs ok1 4 1 7 8 2 0
  refine Run ?_ trivial trivial trivial trivial trivial trivial trivial trivial trivial trivial trivial trivial
  rfl
theorem ChainOwn_walk (w : World) (A : Option Addr) (n c : Nat) (l : List UInt8) (hl : RBytes w [.slice A n c] l) : Calls Try.prog 8 #[.slice A n c] w (Tells w true) := (ChainOwn_law l hl.len).tells (.one hl.repsA)
end Go.Proofs.Ythpigmkdchnnoaa
