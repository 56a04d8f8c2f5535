/- chain and suite over bytes that may be written: Clone, joined, Sum, Append. -/
import Derived.Test.YthpigmkdchnnoaaChA
import Derived.Test.YthpigmkdchnnoaaBufT
namespace Go.Proofs.Ythpigmkdchnnoaa
open Go.RowKit
set_option linter.unusedVariables false
set_option linter.unusedSimpArgs false
set_option maxRecDepth 10000
def bufC (x : List UInt8) (j : Nat) : List AV := x.map bvA ++ anys j
theorem bufC_shut (x : List UInt8) (j : Nat) : AV.shutL (bufC x j) = true := shutL_append _ _ (shutL_bvA x) (anys_shut j)
theorem bufC_ren (f : Int → Int) (x : List UInt8) (j : Nat) : AV.renL f (bufC x j) = bufC x j := AV.renL_shut _ _ (bufC_shut x j)
theorem bufC_ids (k : Int) (x : List UInt8) (j : Nat) : AV.idsL (inK k) (bufC x j) = true := AV.idsL_shut _ _ (bufC_shut x j)
theorem bufC_take (x : List UInt8) (j : Nat) : ((bufC x j).drop 0).take (x.length * 1) = x.map bvA := by
  rw [List.drop_zero, Nat.mul_one, bufC]
  have h : (x.map bvA).length = x.length := List.length_map _
  rw [← h, List.take_left]
theorem bufC_len (x : List UInt8) (j : Nat) : (bufC x j).length = x.length + j := by simp [bufC, anys]
theorem cloneB_sys (x : List UInt8) (j : Nat) (h0 : 0 < x.length) (hm : x.length ≤ 1000000) (X : Int) : ASys Try.prog 27 [.buf X 0 x.length (x.length + j)] (bsA x) [(X, bufC x j, bufC x j)] [] := by
  refine ASys.mk (args0 := [.buf 0 0 x.length (x.length + j)]) (zo := [(0, bufC x j, bufC x j)]) (zt := []) 1 (fun _ => X) rfl ?_ rfl (by omega) ?_ ?_ ?_ rfl ?_ (bsA_shut _) ?_
  · simp only [List.map_cons, List.map_nil, bufC_ren]
  · intro i h0 h1
    simp [sysIds]
    omega
  · intro i hi
    simp [sysIds] at hi
    omega
  · simp [sysIds]
  · intro e he
    simp only [List.mem_singleton] at he
    subst he
    exact ⟨bufC_ids _ _ _, bufC_ids _ _ _⟩
  · simp only [List.map_cons, List.map_nil]
    refine ACalls_body Try.func27 rfl rfl ?_
    simp only [Try.ntmps27, List.length_cons, List.length_nil, Nat.reduceAdd, Nat.reduceSub, List.replicate_succ, List.replicate_zero, List.cons_append, List.nil_append]
    refine Run ?_ trivial trivial trivial trivial trivial trivial trivial trivial trivial trivial trivial trivial
    with_reducible apply S_eqnil_buf
    case hx => rfl
    case hy => rfl
    case hs => exact aput_ok rfl
    refine Run ?_ trivial trivial trivial trivial trivial trivial trivial trivial trivial trivial trivial trivial
    with_reducible apply T_append_fullS
    case hx => rfl
    case hy => rfl
    case hS => exact SrcS_buf inferInstance rfl (bufC_take x j) (by rw [bufC_len]; omega) (bvA_ones x)
    case hl => rfl
    case hb => constructor <;> omega
    case hs => exact aput_ok rfl
    refine Run ?_ trivial trivial trivial trivial trivial trivial trivial trivial trivial trivial trivial trivial
    refine ⟨?_, by show (1 : Int) ≤ 1 + 1; omega, ?_, fun e he => by cases he⟩
    · rw [aone]
      unfold AV.wk
      rw [AV.wkL_append, AV.wkL_bvA]
      simp only [AV.wkL, List.nil_append, Nat.zero_add]
    · intro e he
      simp only [List.mem_singleton] at he
      subst he
      rfl
theorem joinedB_sys (y x : List UInt8) (j : Nat) (hy : y.length ≤ 1000000) (hm : x.length ≤ 1000000) (X : Int) : ASys Try.prog 38 [.sl .none [bsA y, .buf X 0 x.length (x.length + j)] 2] (.str (y ++ x)) [(X, bufC x j, bufC x j)] [] := by
  refine ASys.mk (args0 := [.sl .none [bsA y, .buf 0 0 x.length (x.length + j)] 2]) (zo := [(0, bufC x j, bufC x j)]) (zt := []) 1 (fun _ => X) ?_ ?_ rfl (by omega) ?_ ?_ ?_ ?_ ?_ rfl ?_
  · simp only [AV.renL, AV.ren, AOwn.ren, AV.renL_shut _ _ (shutL_bvA y)]
  · simp only [List.map_cons, List.map_nil, bufC_ren]
  · intro i h0 h1
    simp [sysIds]
    omega
  · intro i hi
    simp [sysIds] at hi
    omega
  · simp [sysIds]
  · simp only [AV.idsL, AV.ids, AOwn.ids, AV.idsL_shut _ _ (shutL_bvA y)]; rfl
  · intro e he
    simp only [List.mem_singleton] at he
    subst he
    exact ⟨bufC_ids _ _ _, bufC_ids _ _ _⟩
  · simp only [List.map_cons, List.map_nil]
    refine ACalls_body Try.func38 rfl rfl ?_
    simp only [Try.ntmps38, List.length_cons, List.length_nil, Nat.reduceAdd, Nat.reduceSub, List.replicate_succ, List.replicate_zero, List.cons_append, List.nil_append]
    refine Run ?_ trivial trivial trivial trivial trivial trivial trivial trivial trivial trivial trivial trivial
    refine AWP_adopt 3 1 rfl (by simp only [setF]; rfl) ?_
    with_reducible refine AWP_loop_n 3 ?_
    refine Run ?_ trivial trivial trivial trivial trivial trivial trivial trivial trivial trivial trivial trivial
    with_reducible apply T_append_tokS
    case hx => rfl
    case hy => rfl
    case htk => rfl
    case hS => exact SrcS_buf inferInstance rfl (bufC_take x j) (by rw [bufC_len]; omega) (bvA_ones x)
    case hb => constructor <;> omega
    case ht => rfl
    case hs => exact aput_ok rfl
    refine Run ?_ trivial trivial trivial trivial trivial trivial trivial trivial trivial trivial trivial trivial
    with_reducible apply AOPS_string (l := y ++ x)
    case hx => rfl
    case hb => rw [List.nil_append, List.map_append]
    case hl => rw [List.length_append, Nat.zero_add]
    case hs => exact aput_ok rfl
    refine Run ?_ trivial trivial trivial trivial trivial trivial trivial trivial trivial trivial trivial trivial
    refine ⟨rfl, by show (1 : Int) ≤ 1 + 1; omega, ?_, fun e he => by cases he⟩
    intro e he
    simp only [List.mem_singleton] at he
    subst he
    rfl
/-- A suite, and a buffer. -/
theorem sumB_sys (y x : List UInt8) (j : Nat) (hy : y.length ≤ 1000000) (hm : x.length ≤ 1000000) (xs : List (List UInt8)) (hn : xs.length ≤ 1000000) (s X l m : Int) : ASys Try.prog 26 [.ptr s 0, .sl .none [bsA y, .buf X 0 x.length (x.length + j)] 2] (bsA (signB 72 (sumN xs (y ++ x))))
    [(s, suX xs l m, suX (sumX xs (y ++ x)) l m), (X, bufC x j, bufC x j)] [(l, suL xs, suL (sumX xs (y ++ x))), (m, suM xs, suM (sumX xs (y ++ x)))] := by
  refine ASys.mk (args0 := [.ptr 0 0, .sl .none [bsA y, .buf 1 0 x.length (x.length + j)] 2]) (zo := [(0, suX xs 2 3, suX (sumX xs (y ++ x)) 2 3), (1, bufC x j, bufC x j)]) (zt := [(2, suL xs, suL (sumX xs (y ++ x))), (3, suM xs, suM (sumX xs (y ++ x)))]) 4 (fun i => if i = 0 then s else if i = 1 then X else if i = 2 then l else m) ?_ ?_ rfl (by omega) ?_ ?_ ?_ ?_ ?_ (bsA_shut _) ?_
  · simp only [AV.renL, AV.ren, AOwn.ren, AV.renL_shut _ _ (shutL_bvA y)]; rfl
  · simp only [List.map_cons, List.map_nil, bufC_ren, suX_ren]; rfl
  · intro i h0 h1
    simp [sysIds]
    omega
  · intro i hi
    simp [sysIds] at hi
    omega
  · simp [sysIds]
  · simp only [AV.idsL, AV.ids, AOwn.ids, AV.idsL_shut _ _ (shutL_bvA y)]; rfl
  · intro e he
    simp only [List.mem_cons, List.not_mem_nil, or_false] at he
    rcases he with rfl | rfl
    · exact ⟨suX_ids _ _ _ _ rfl rfl, suX_ids _ _ _ _ rfl rfl⟩
    · exact ⟨bufC_ids _ _ _, bufC_ids _ _ _⟩
  · simp only [List.map_cons, List.map_nil]
    refine ACalls_body Try.func26 rfl rfl ?_
    simp only [Try.ntmps26, List.length_cons, List.length_nil, Nat.reduceAdd, Nat.reduceSub, List.replicate_succ, List.replicate_zero, List.cons_append, List.nil_append]
    have hN : sumN xs (y ++ x) ≤ 1000000000000000 := by unfold sumN; have := List.idxOf_le_length (a := y ++ x) (l := xs); omega
    have e1 := joinedB_sys y x j hy hm 1
    have e2 := once_sum (y ++ x) xs hn 0 2 3
    have e3 := signed_val 72 (sumN xs (y ++ x)) hN
    rw [show bvA 72 = .int .u8 72 from rfl] at e3
    refine Run ?_ trivial trivial trivial trivial trivial trivial trivial trivial trivial trivial trivial trivial
    refine ⟨?_, by show (4 : Int) ≤ 4; omega, ?_, ?_⟩
    · rw [aone]
      unfold AV.wk
      rw [AV.wkL_bvA]
      rfl
    · intro e he
      simp only [List.mem_cons, List.not_mem_nil, or_false] at he
      rcases he with rfl | rfl <;> rfl
    · intro e he
      simp only [List.mem_cons, List.not_mem_nil, or_false] at he
      rcases he with rfl | rfl <;> rfl
end Go.Proofs.Ythpigmkdchnnoaa
