/- Law 12: ChainReal. -/
import Derived.Test.YthpigmkdchnnoaaChP
import Derived.Test.YthpigmkdchnnoaaChJ
import Derived.Test.YthpigmkdchnnoaaRfM
import Derived.Test.YthpigmkdchnnoaaLkO
namespace Go.Proofs.Ythpigmkdchnnoaa
open Go.RowKit
set_option linter.unusedVariables false
set_option linter.unusedSimpArgs false
set_option maxRecDepth 10000
set_option maxHeartbeats 8000000 in
theorem ChainReal_law (n : Int) (q : List (List UInt8)) (hq : q.length ≤ 9223372036854775807) : ACalls Try.prog 5 [.int .i64 n, lkA q] ⟨[], [], 0⟩ (fun rv _ => rv = .bool true) := by
  refine ACalls_body Try.func5 rfl rfl ?_
  simp only [Try.ntmps5, List.length_cons, List.length_nil, Nat.reduceAdd, Nat.reduceSub, List.replicate_succ, List.replicate_zero, List.cons_append, List.nil_append]
  have h0 := anchor12_val
  by_cases g1 : 4 < q.length
  · refine Run ?_ trivial trivial trivial trivial trivial trivial trivial trivial trivial trivial trivial trivial
    rfl
  have h1 := small_val q hq
  by_cases h2 : smallL q
  case neg =>
    rw [decide_eq_false h2] at h1
    refine Run ?_ trivial trivial trivial trivial trivial trivial trivial trivial trivial trivial trivial trivial
    rfl
  rw [decide_eq_true h2] at h1
  refine Run ?_ trivial trivial (⟨Try.func18, rfl, rfl⟩ : Inl Try.prog 18 _ _ _) trivial trivial trivial trivial trivial trivial trivial trivial trivial
  refine AOPS_weakS (σ1 := ⟨[(1, srC)], [], 2⟩) ⟨fun id c hl => ?_, fun id t hl => by simp [alook] at hl, Int.le_refl _⟩ ?_
  · simp only [alook] at hl
    split at hl
    · rename_i h3
      subst h3
      cases hl
      exact ⟨_, rfl, .inr (by simp only [AV.wkL, AV.wk]; rfl)⟩
    · cases hl
  by_cases g2 : n < 0 ∨ 1099511627776 < n
  · have p1 := put1_bad n g2
    by_cases g3 : n < 1
    · refine Run ?_ trivial trivial (⟨Try.func11, rfl, rfl⟩ : Inl Try.prog 11 _ _ _) trivial trivial trivial trivial RowB.ok trivial trivial trivial trivial
      rfl
    · have g4 : 1099511627776 < n := by omega
      refine Run ?_ trivial trivial (⟨Try.func11, rfl, rfl⟩ : Inl Try.prog 11 _ _ _) trivial trivial trivial trivial RowB.ok trivial trivial trivial trivial
      rfl
  by_cases g3 : n < 1
  · obtain rfl : n = 0 := by omega
    have p1 : AVal Try.prog 25 [.sl .none [.iface 3 (.int .i64 0)] 1] (okA (numB 0)) := put1_ok 0 (by omega)
    refine Run ?_ trivial trivial (⟨Try.func11, rfl, rfl⟩ : Inl Try.prog 11 _ _ _) trivial trivial trivial trivial RowB.ok trivial trivial trivial trivial
    rfl
  obtain ⟨m, rfl⟩ := Int.eq_ofNat_of_zero_le (show 0 ≤ n by omega)
  have p1 := put1_ok m (by omega)
  have p3 : ASys Try.prog 26 [.ptr 1 0, .sl .none [.sl .none [.int .u8 108, .int .u8 111, .int .u8 99, .int .u8 107, .int .u8 101, .int .u8 116] 6, bsA (numB m)] 2] (bsA (sumB (firstT m))) [(1, srC, srC)] [] := sumR_sys [[108, 111, 99, 107, 101, 116], numB m] (firstT m) (by simp [firstT]) (by simp [firstT, numB]) 1
  have p4 := refNum_val m (by omega)
  have p5 : AVal Try.prog 19 [.sl .none ([.int .u8 108, .int .u8 111, .int .u8 99, .int .u8 107, .int .u8 101, .int .u8 116] ++ (numB m).map bvA) 12] (bsA (sumB (firstT m))) := rsumA_val (firstT m) (by simp [firstT, numB])
  have hl0 := sumB_length (firstT m)
  generalize sumB (firstT m) = y0 at p3 p5 hl0
  refine Run ?_ trivial trivial (⟨Try.func11, rfl, rfl⟩ : Inl Try.prog 11 _ _ _) trivial trivial trivial trivial RowB.ok trivial trivial trivial trivial
  refine AWP_adO (nx := 7) 3 1 1 rfl rfl rfl rfl rfl ?_
  refine AWP_adOF (nx := 8) 3 2 1 rfl rfl rfl rfl rfl rfl ?_
  clear p1 p3 p4 p5
  refine AWP_loopW [4, 7, 9, 40, 41, 42, 43, 44, 45, 46, 47, 48, 49, 50, 51, 52, 53, 54, 55, 56, 57, 58, 59] (N := Nat × Int × List (List UInt8) × List (List UInt8) × List UInt8 × List AV) (fun ⟨k, nx, ls, ss, z, js⟩ => [js.getD 0 .und, bsA z, js.getD 1 .und, lkA q, .int .i64 (q.length : Int), .int .i64 (k : Int), js.getD 2 .und, js.getD 3 .und, js.getD 4 .und, js.getD 5 .und, js.getD 6 .und, js.getD 7 .und, js.getD 8 .und, js.getD 9 .und, js.getD 10 .und, js.getD 11 .und, js.getD 12 .und, js.getD 13 .und, js.getD 14 .und, js.getD 15 .und, js.getD 16 .und, js.getD 17 .und, js.getD 18 .und]) (fun ⟨k, nx, ls, ss, z, js⟩ => ⟨[(3, chC ls ss 1 6 7), (1, srC)], [(7, lnT ss), (6, lnT ls), (5, .top (6 + 6))], nx⟩) (fun ⟨k, nx, ls, ss, z, js⟩ => 8 ≤ nx ∧ k ≤ q.length ∧ ls.length = k ∧ ss.length = k + 1 ∧ (∀ y ∈ ss, y.length = 32) ∧ ss.getD k [] = z ∧ z.length = 32) (fun ⟨k, nx, ls, ss, z, js⟩ => q.length - k) ⟨0, 8, [], [y0], y0, [_, _, _, _, _, _, _, _, _, _, _, _, _, _, _, _, _, _, _]⟩ rfl ?hs0 ?hi0 ?_
  rotate_left 2
  rintro ⟨k, nx, ls, ss, z, js⟩ sl_ hs hi
  simp only [setsF, setF, Option.some.injEq] at hs
  subst hs
  case hs0 => exact ASub.refl _
  case hi0 => exact ⟨by omega, by omega, rfl, rfl, by simpa using hl0, rfl, hl0⟩
  clear hl0
  obtain ⟨hnx, hk, hls, hss, h32, hz, hz32⟩ := hi
  by_cases hlt : k < q.length
  · have hel : q[k]? = some q[k] := List.getElem?_eq_getElem hlt
    have hc : (q.map bsA)[k]? = some (bsA q[k]) := by rw [List.getElem?_map, hel]; rfl
    have hsz := h2.1 q[k] (List.getElem_mem hlt)
    generalize q[k] = x at hel hc hsz
    by_cases h0 : x.length < 1
    · have e1 := appendR_no ls ss x h0 3 1 6 7
      refine Run ?_ trivial trivial trivial trivial trivial trivial trivial trivial trivial trivial trivial trivial
      rfl
    have e1 := appendR_ok ls ss x (by omega) h32 (by omega) (by omega) (by omega) 3 1 6 7
    rw [hls, hz] at e1
    have e2 : AVal Try.prog 19 [.sl .none (z.map bvA ++ x.map bvA) (0 + z.length + x.length)] (bsA (sumB (z ++ x))) := by
      have := rsumA_val (z ++ x) (by rw [List.length_append]; omega)
      rwa [bsA, List.map_append, List.length_append, ← Nat.zero_add z.length] at this
    have w1 := sumB_length (z ++ x)
    generalize sumB (z ++ x) = y at e1 e2 w1
    refine Run ?_ trivial trivial trivial trivial trivial trivial trivial trivial trivial trivial trivial trivial
    refine ALoopW_normal ⟨k + 1, nx + 1, ls ++ [x], ss ++ [y], y, [_, _, _, _, _, _, _, _, _, _, _, _, _, _, _, _, _, _, _]⟩ rfl ?hs1 ?hi1 ?hm1
    case hs1 => exact (ASub.refl _).dropt (by simp only [alook]; rw [if_neg (by omega), if_neg (by omega), if_neg (by omega)])
    case hi1 =>
      refine ⟨by omega, by omega, by rw [List.length_append, hls]; rfl, by rw [List.length_append, hss]; rfl, ?_, ?_, w1⟩
      · intro u hu
        rcases List.mem_append.1 hu with hu | hu
        · exact h32 u hu
        · rw [List.mem_singleton.1 hu]; exact w1
      · rw [List.getD_eq_getElem?_getD, List.getElem?_append_right (by omega), hss, Nat.sub_self]; rfl
    case hm1 => simp only; omega
  obtain rfl : k = q.length := by omega
  have e1 := headR_sys ls ss (by omega) h32 3 1 6 7
  rw [hls, hz] at e1
  refine Run ?_ trivial trivial trivial trivial trivial trivial trivial trivial trivial trivial trivial trivial
  rfl
theorem ChainReal_walk (w : World) (x : Int) (hx : (Lit.int .i64 x).wf = true) (A : Option Addr) (n c : Nat) (l : List (List UInt8)) (hl : RSlice 1 RBytes w [.slice A n c] l) : Calls Try.prog 5 #[.int .i64 x, .slice A n c] w (Tells w true) := (ChainReal_law x l (RLinks.repsA hl).2).tells (.cons Reps_int (.one (RLinks.repsA hl).1))
end Go.Proofs.Ythpigmkdchnnoaa
