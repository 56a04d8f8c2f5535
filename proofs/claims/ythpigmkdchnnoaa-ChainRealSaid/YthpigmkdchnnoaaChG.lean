/- Law 12: the document's example. -/
import Derived.Test.YthpigmkdchnnoaaChB
namespace Go.Proofs.Ythpigmkdchnnoaa
open Go.RowKit
set_option linter.unusedVariables false
set_option linter.unusedSimpArgs false
set_option maxRecDepth 10000
/-- What code.Put answers to one number. -/
theorem put1_ok (n : Nat) (h : n ≤ 1099511627776) : AVal Try.prog 25 [.sl .none [.iface 3 (.int .i64 (n : Int))] 1] (okA (numB n)) := by
  have := put_val [.inl (n : Int)] .none 1 rfl (by omega) (by intro l hl; simp at hl)
  unfold putR at this
  have he : putErr [.inl (n : Int)] = 0 := by simp [putErr, ptErr]; omega
  rw [if_pos he, show putB [.inl (n : Int)] = numB n by simp [putB, ptB]] at this
  exact this
theorem put1_bad (n : Int) (h : n < 0 ∨ 1099511627776 < n) : AVal Try.prog 25 [.sl .none [.iface 3 (.int .i64 n)] 1] (erA 12) := by
  have := put_val [.inl n] .none 1 rfl (by omega) (by intro l hl; simp at hl)
  unfold putR at this
  have he : putErr [.inl n] = 12 := by simp [putErr, ptErr]; omega
  rw [if_neg (by omega), he] at this
  exact this
/-- What a chain's first sum is of. -/
def firstT (n : Nat) : List UInt8 := [108, 111, 99, 107, 101, 116] ++ numB n
theorem first_sys (xs : List (List UInt8)) (n : Nat) (hn : xs.length ≤ 1000000) (s l m : Int) : ASys Try.prog 26 [.ptr s 0, .sl .none [.sl .none [.int .u8 108, .int .u8 111, .int .u8 99, .int .u8 107, .int .u8 101, .int .u8 116] 6, bsA (numB n)] 2] (bsA (signB 72 (sumN xs (firstT n))))
    [(s, suX xs l m, suX (sumX xs (firstT n)) l m)] [(l, suL xs, suL (sumX xs (firstT n))), (m, suM xs, suM (sumX xs (firstT n)))] :=
  sum_sys [[108, 111, 99, 107, 101, 116], numB n] (firstT n) (by simp [firstT]) xs hn (by simp) (by intro l hl; simp at hl; rcases hl with rfl | rfl <;> simp [numB]) s l m
theorem append_ok {ls ss xs ls' ss' xs' : List (List UInt8)} {x : List UInt8} (n : Nat) (h : ChOk ls ss xs) (hx : x.length ≤ 1000000) (hE : apE ls x = 0) (hN : sumN xs (apT ls ss x) = n) (hX : sumX xs (apT ls ss x) = xs') (hL : ls ++ [x] = ls') (hS : ss ++ [signB 72 n] = ss') (c s a b l m : Int) : ASys Try.prog 15 [.ptr c 0, bsA x] (.int .i64 0)
    [(c, chC ls ss s a b, chC ls' ss' s a b), (s, suX xs l m, suX xs' l m)] [(a, lnT ls, lnT ls'), (b, lnT ss, lnT ss'), (l, suL xs, suL xs'), (m, suM xs, suM xs')] := by
  have := append_sys ls ss xs x h hx c s a b l m
  unfold apL apS apX at this
  rw [hE, hN, hX] at this
  simp only [if_true] at this
  rw [hL, hS] at this
  exact this
theorem ChOk.dec {ls ss xs : List (List UInt8)} (h : (decide (ss.length = ls.length + 1) && ss.all (fun y => decide (y.length = 32)) && decide (ls.length ≤ 64) && ls.all (fun y => decide (1 ≤ y.length ∧ y.length ≤ 4096)) && decide (xs.length ≤ 1000000)) = true) : ChOk ls ss xs := by
  simp only [Bool.and_eq_true, decide_eq_true_eq, List.all_eq_true] at h
  exact ⟨h.1.1.1.1, h.1.1.1.2, h.1.1.2, h.1.2, h.2⟩
theorem check_ok {ls ss xs : List (List UInt8)} {i : Int} {y : List UInt8} (n : Int) (h : ChOk ls ss xs) (hn : chkN ss i y = n) (c s a b l m : Int) : ASys Try.prog 17 [.ptr c 0, hdA i y] (.int .i64 n)
    [(c, chC ls ss s a b, chC ls ss s a b), (s, suX xs l m, suX xs l m)] [(a, lnT ls, lnT ls), (b, lnT ss, lnT ss), (l, suL xs, suL xs), (m, suM xs, suM xs)] := hn ▸ check_sys ls ss xs h i y c s a b l m
set_option maxHeartbeats 4000000 in
theorem anchor12_val : AVal Try.prog 9 [] (.bool true) := by
  refine AVal.mkw rfl rfl ?_
  refine ACalls_body Try.func9 rfl rfl ?_
  simp only [Try.ntmps9, List.length_cons, List.length_nil, Nat.reduceAdd, Nat.reduceSub, List.replicate_succ, List.replicate_zero, List.cons_append, List.nil_append]
  refine Run ?_ trivial trivial (⟨Try.func12, rfl, rfl⟩ : Inl Try.prog 12 _ _ _) trivial trivial trivial trivial trivial trivial trivial trivial trivial
  refine AOPS_adoptO (nx := 3) 1 3 5 rfl rfl rfl rfl rfl ?_
  have hp : AVal Try.prog 25 [.sl .none [.iface 3 (.int .i64 1)] 1] (okA (numB 1)) := put1_ok 1 (by omega)
  have h1 := first_sys [] 1 (by simp) 1 2 0
  rw [show sumN [] (firstT 1) = 1 from rfl, show sumX [] (firstT 1) = [firstT 1] by simp [sumX]] at h1
  refine Run ?_ trivial trivial (⟨Try.func11, rfl, rfl⟩ : Inl Try.prog 11 _ _ _) trivial trivial trivial trivial RowB.ok trivial trivial trivial trivial
  clear h1
  have h2 := first_sys [firstT 1] 1 (by simp) 1 2 0
  rw [show sumN [firstT 1] (firstT 1) = 1 by simp [sumN], show sumX [firstT 1] (firstT 1) = [firstT 1] by simp [sumX]] at h2
  refine Run ?_ trivial trivial (⟨Try.func11, rfl, rfl⟩ : Inl Try.prog 11 _ _ _) trivial trivial trivial trivial RowB.ok trivial trivial trivial trivial
  refine AWP_adO (nx := 8) 4 1 1 rfl rfl rfl rfl rfl ?_
  refine AWP_adOF (nx := 9) 4 2 1 rfl rfl rfl rfl rfl rfl ?_
  refine AWP_adO (nx := 10) 6 1 1 rfl rfl rfl rfl rfl ?_
  refine AWP_adOF (nx := 11) 6 2 1 rfl rfl rfl rfl rfl rfl ?_
  clear h2 hp
  have a1 := append_ok (ls := []) (ss := [signB 72 1]) (xs := [firstT 1]) (ls' := [[97]]) (ss' := [signB 72 1, signB 72 2]) (xs' := [firstT 1, signB 72 1 ++ [97]]) (x := List.take 1 (ByteArray.mk #[97, 98]).data.toList) 2 (ChOk.dec rfl) (by decide) (by decide) (by decide +kernel) (by decide +kernel) rfl rfl 4 1 7 8 2 0
  have a2 := append_ok (ls := [[97]]) (ss := [signB 72 1, signB 72 2]) (xs := [firstT 1, signB 72 1 ++ [97]]) (ls' := [[97], [98]]) (ss' := [signB 72 1, signB 72 2, signB 72 3]) (xs' := [firstT 1, signB 72 1 ++ [97], signB 72 2 ++ [98]]) (x := List.drop 1 (ByteArray.mk #[97, 98]).data.toList) 3 (ChOk.dec rfl) (by decide) (by decide) (by decide +kernel) (by decide +kernel) rfl rfl 4 1 7 8 2 0
  have b1 := append_ok (ls := []) (ss := [signB 72 1]) (xs := [firstT 1, signB 72 1 ++ [97], signB 72 2 ++ [98]]) (ls' := [[97]]) (ss' := [signB 72 1, signB 72 2]) (xs' := [firstT 1, signB 72 1 ++ [97], signB 72 2 ++ [98]]) (x := List.take 1 (ByteArray.mk #[97, 99]).data.toList) 2 (ChOk.dec rfl) (by decide) (by decide) (by decide +kernel) (by decide +kernel) rfl rfl 6 1 9 10 2 0
  have b2 := append_ok (ls := [[97]]) (ss := [signB 72 1, signB 72 2]) (xs := [firstT 1, signB 72 1 ++ [97], signB 72 2 ++ [98]]) (ls' := [[97], [99]]) (ss' := [signB 72 1, signB 72 2, signB 72 4]) (xs' := [firstT 1, signB 72 1 ++ [97], signB 72 2 ++ [98], signB 72 2 ++ [99]]) (x := List.drop 1 (ByteArray.mk #[97, 99]).data.toList) 4 (ChOk.dec rfl) (by decide) (by decide) (by decide +kernel) (by decide +kernel) rfl rfl 6 1 9 10 2 0
  have ok2 : ChOk [[97], [99]] [signB 72 1, signB 72 2, signB 72 4] [firstT 1, signB 72 1 ++ [97], signB 72 2 ++ [98], signB 72 2 ++ [99]] := ChOk.dec rfl
  have ok1 : ChOk [[97], [98]] [signB 72 1, signB 72 2, signB 72 3] [firstT 1, signB 72 1 ++ [97], signB 72 2 ++ [98], signB 72 2 ++ [99]] := ChOk.dec rfl
  refine Run ?_ trivial trivial trivial trivial trivial trivial trivial trivial trivial trivial trivial trivial
  with_reducible refine AWP_loop_n 3 ?_
  refine Run ?_ trivial trivial trivial trivial trivial trivial trivial trivial trivial trivial trivial trivial
  have e1 : ASys Try.prog 16 [.ptr 6 0, .int .i64 1] (.tup [hdA 1 (signB 72 2), .bool true]) _ _ := at_sys _ _ _ ok2 1 6 1 9 10 2 0
  have e2 := check_ok (i := 1) (y := signB 72 2) 0 ok1 (by decide +kernel) 4 1 7 8 2 0
  have e3 : ASys Try.prog 13 [.ptr 6 0] (hdA 2 (signB 72 4)) _ _ := head_sys _ _ _ ok2 6 1 9 10 2 0
  have e4 := check_ok (i := 2) (y := signB 72 4) 24 ok1 (by decide +kernel) 4 1 7 8 2 0
  have e5 : ASys Try.prog 17 [.ptr 4 0, .agg [.int .i64 3, .sl .none [] 0]] (.int .i64 14) _ _ := check_ok (i := 3) (y := []) 14 ok1 (by decide +kernel) 4 1 7 8 2 0
  have e6 : ASys Try.prog 14 [.ptr 4 0] (.int .i64 2) _ _ := len_sys [[97], [98]] [signB 72 1, signB 72 2, signB 72 3] [firstT 1, signB 72 1 ++ [97], signB 72 2 ++ [98], signB 72 2 ++ [99]] 4 1 7 8 2 0
  refine Run ?_ trivial trivial trivial trivial trivial trivial trivial trivial trivial trivial trivial trivial
  rfl
end Go.Proofs.Ythpigmkdchnnoaa
