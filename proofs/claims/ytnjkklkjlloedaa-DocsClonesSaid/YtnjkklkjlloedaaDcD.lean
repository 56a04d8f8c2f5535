/- docs: what the document says of them, by the abstract machine. -/
import Derived.Test.YtnjkklkjlloedaaDcC
import Derived.Test.YtnjkklkjlloedaaEnM
namespace Go.Proofs.Ytnjkklkjlloedaa
open Go.RowKit
set_option linter.unusedVariables false
set_option linter.unusedSimpArgs false
set_option maxRecDepth 10000
theorem dcC_len : ∀ D : Dm, (dcC D).length = D.length * 2
  | [] => rfl
  | e :: r => by have := dcC_len r; simp only [dcC] at this; simp only [dcC, List.flatMap_cons, List.length_append, List.length_cons, List.length_nil, this]; omega
theorem dcC_drop : ∀ (D : Dm) (k : Nat), (dcC D).drop (k * 2) = dcC (D.drop k)
  | D, 0 => by simp
  | [], k + 1 => by simp [dcC]
  | e :: r, k + 1 => by
    rw [show (k + 1) * 2 = k * 2 + 1 + 1 by omega, List.drop_succ_cons]
    exact dcC_drop r k
theorem dcC_load {D : Dm} {k : Nat} {e : Nm × Nm} (h : D[k]? = some e) : aload true 2 (dcC D) (k * 2) = some (.agg [bsA e.1, bsA e.2]) := by
  obtain ⟨hk, rfl⟩ := List.getElem?_eq_some_iff.1 h
  simp only [aload, if_true]
  rw [if_pos (by rw [dcC_len]; omega), dcC_drop, List.drop_eq_getElem_cons hk]
  rfl
theorem dcC_name {D : Dm} {k : Nat} {e : Nm × Nm} (h : D[k]? = some e) : (dcC D)[k * 2 + 0]? = some (bsA e.1) := by
  obtain ⟨hk, rfl⟩ := List.getElem?_eq_some_iff.1 h
  have : (dcC D)[k * 2 + 0]? = ((dcC D).drop (k * 2))[0]? := by simp
  rw [this, dcC_drop, List.drop_eq_getElem_cons hk]
  rfl
theorem dcC_val {D : Dm} {k : Nat} {e : Nm × Nm} (h : D[k]? = some e) : (dcC D)[k * 2 + 1]? = some (bsA e.2) := by
  obtain ⟨hk, rfl⟩ := List.getElem?_eq_some_iff.1 h
  have : (dcC D)[k * 2 + 1]? = ((dcC D).drop (k * 2))[1]? := by rw [List.getElem?_drop]
  rw [this, dcC_drop, List.drop_eq_getElem_cons hk]
  rfl
theorem dcR_shut (D : Dm) : (dcR D).shut = true := by unfold AV.shut; exact dcC_shut D
/-- Names and values are short. -/
def DmLen (D : Dm) : Prop := ∀ e ∈ D, e.1.length ≤ 1000000 ∧ e.2.length ≤ 1000000
theorem madeD_val (D : Dm) (hn : D.length ≤ 1000) : AVal Try.prog 31 [dcR D] (dcR D) := by
  refine AVal.mkw (by simp only [AV.shutL, dcR_shut, Bool.and_self]) (dcR_shut _) ?_
  refine ACalls_body Try.func31 rfl rfl ?_
  simp only [Try.ntmps31, List.length_cons, List.length_nil, Nat.reduceAdd, Nat.reduceSub, List.replicate_succ, List.replicate_zero, List.cons_append, List.nil_append]
  refine Run ?_ trivial trivial trivial trivial trivial trivial trivial trivial trivial trivial trivial trivial
  refine AWP_adopt 3 2 rfl (by simp only [setF]; rfl) ?_
  refine AWP_loopW [3, 5, 6, 7, 8, 9, 10, 11, 12, 13, 14, 15, 16] (N := Nat × Nat × List AV × Int × List AV) (fun ⟨k, n, cs, nx, js⟩ => [.sl (.tok 0 n 2) cs n, js.getD 0 .und, dcR D, .int .i64 (D.length : Int), .int .i64 (k : Int), js.getD 1 .und, js.getD 2 .und, js.getD 3 .und, js.getD 4 .und, js.getD 5 .und, js.getD 6 .und, js.getD 7 .und, js.getD 8 .und]) (fun ⟨k, n, cs, nx, js⟩ => ⟨[], [(0, n)], nx⟩) (fun ⟨k, n, cs, nx, js⟩ => k ≤ D.length ∧ cs = dcC (D.take k) ∧ n = k ∧ 1 ≤ nx) (fun ⟨k, n, cs, nx, js⟩ => D.length - k) ⟨0, 0, [], 1, [_, _, _, _, _, _, _, _, _]⟩ rfl ?hs0 ?hi0 ?_
  rotate_left 2
  rintro ⟨k, n, cs, nx, js⟩ sl_ hs hi
  simp only [setsF, setF, Option.some.injEq] at hs
  subst hs
  case hs0 => exact ASub.refl _
  case hi0 => exact ⟨by omega, rfl, rfl, by omega⟩
  obtain ⟨hk, hcs, hn2, hnx⟩ := hi
  by_cases hlt : k < D.length
  · have hel : D[k]? = some D[k] := List.getElem?_eq_getElem hlt
    have hst : dcC (D.take (k + 1)) = dcC (D.take k) ++ [bsA D[k].1, bsA D[k].2] := by rw [List.take_add_one, hel, Option.toList_some, dcC_snoc]
    have hcl := dcC_load hel
    generalize D[k] = d at hel hst hcl
    refine Run ?_ trivial trivial trivial trivial trivial trivial trivial trivial trivial trivial trivial trivial
    refine ALoopW_normal ⟨k + 1, n + 1, cs ++ [bsA d.1, bsA d.2], nx + 1, [_, _, _, _, _, _, _, _, _]⟩ rfl ?hs1 ?hi1 ?hm1
    case hs1 => exact (ASub.refl _).drop (by simp only [alook]; repeat (first | rw [if_neg (by omega)]))
    case hi1 => exact ⟨by omega, by rw [hst, hcs], by omega, by omega⟩
    case hm1 => simp only; omega
  · obtain rfl : k = D.length := by omega
    rw [List.take_length] at hcs
    subst hcs hn2
    refine Run ?_ trivial trivial trivial trivial trivial trivial trivial trivial trivial trivial trivial trivial
    simp only [aone]
    unfold AV.wk
    rw [dcC_wk]
theorem refSame11_val (A B : Dm) (hA : DmLen A) (hB : DmLen B) (hn : A.length ≤ 1000) (hm : B.length ≤ 9223372036854775807) : AVal Try.prog 33 [dcR A, dcR B] (.bool (decide (A = B))) := by
  refine AVal.mkw (by simp only [AV.shutL, dcR_shut, Bool.and_self]) (by simp [AV.shut]) ?_
  refine ACalls_body Try.func33 rfl rfl ?_
  simp only [Try.ntmps33, List.length_cons, List.length_nil, Nat.reduceAdd, Nat.reduceSub, List.replicate_succ, List.replicate_zero, List.cons_append, List.nil_append]
  by_cases hl : A.length = B.length
  case neg =>
    rw [decide_eq_false (fun h => hl (by rw [h]))]
    refine Run ?_ trivial trivial trivial trivial trivial trivial trivial trivial trivial trivial trivial trivial
    rfl
  have hl2 : (A.length : Int) = (B.length : Int) := by rw [hl]
  refine Run ?_ trivial trivial trivial trivial trivial trivial trivial trivial trivial trivial trivial trivial
  refine AWP_loopS [4, 5, 11, 12, 13, 14, 15, 16, 17, 18, 19, 20, 21, 22, 23, 24, 25, 26, 27, 28, 29, 30, 31, 32, 33, 34, 35, 36, 37, 38, 39, 40, 41, 42, 43, 44] (N := Nat × List AV) (fun ⟨k, js⟩ => [js.getD 0 .und, .int .i64 (k : Int), js.getD 1 .und, js.getD 2 .und, js.getD 3 .und, js.getD 4 .und, js.getD 5 .und, js.getD 6 .und, js.getD 7 .und, js.getD 8 .und, js.getD 9 .und, js.getD 10 .und, js.getD 11 .und, js.getD 12 .und, js.getD 13 .und, js.getD 14 .und, js.getD 15 .und, js.getD 16 .und, js.getD 17 .und, js.getD 18 .und, js.getD 19 .und, js.getD 20 .und, js.getD 21 .und, js.getD 22 .und, js.getD 23 .und, js.getD 24 .und, js.getD 25 .und, js.getD 26 .und, js.getD 27 .und, js.getD 28 .und, js.getD 29 .und, js.getD 30 .und, js.getD 31 .und, js.getD 32 .und, js.getD 33 .und, js.getD 34 .und]) (fun ⟨k, js⟩ => ⟨[], [], 0⟩) (fun ⟨k, js⟩ => k ≤ A.length ∧ A.take k = B.take k) (fun ⟨k, js⟩ => A.length - k) ⟨0, [_, _, _, _, _, _, _, _, _, _, _, _, _, _, _, _, _, _, _, _, _, _, _, _, _, _, _, _, _, _, _, _, _, _, _]⟩ rfl rfl ?hi0 ?_
  rotate_left
  rintro ⟨k, js⟩ sl_ hs hi
  simp only [setsF, setF, Option.some.injEq] at hs
  subst hs
  case hi0 => exact ⟨by omega, rfl⟩
  obtain ⟨hk, ht⟩ := hi
  by_cases hlt : k < A.length
  · have ha : A[k]? = some A[k] := List.getElem?_eq_getElem hlt
    have hb : B[k]? = some (B[k]'(by omega)) := List.getElem?_eq_getElem (by omega)
    have l1 := hA _ (List.getElem_mem hlt)
    have l2 := hB _ (List.getElem_mem (show k < B.length by omega))
    generalize A[k] = a at ha l1
    generalize B[k]'(by omega) = b at hb l2
    have f1 := dcC_name ha
    have f2 := dcC_val ha
    have f3 := dcC_name hb
    have f4 := dcC_val hb
    by_cases e1 : a.1 = b.1
    · by_cases e2 : a.2 = b.2
      · refine Run ?_ trivial trivial trivial trivial trivial trivial trivial trivial trivial trivial trivial trivial
        refine ALoopQ_normal ⟨k + 1, [_, _, _, _, _, _, _, _, _, _, _, _, _, _, _, _, _, _, _, _, _, _, _, _, _, _, _, _, _, _, _, _, _, _, _]⟩ rfl rfl ?hi1 ?hm1
        case hi1 =>
          refine ⟨by omega, ?_⟩
          rw [List.take_add_one, List.take_add_one, ht, ha, hb, Prod.ext e1 e2]
        case hm1 => simp only; omega
      · rw [decide_eq_false (fun h => e2 (by rw [h, hb] at ha; cases ha; rfl))]
        refine Run ?_ trivial trivial trivial trivial trivial trivial trivial trivial trivial trivial trivial trivial
        rfl
    · rw [decide_eq_false (fun h => e1 (by rw [h, hb] at ha; cases ha; rfl))]
      refine Run ?_ trivial trivial trivial trivial trivial trivial trivial trivial trivial trivial trivial trivial
      rfl
  · obtain rfl : k = A.length := by omega
    rw [List.take_length, hl, List.take_length] at ht
    rw [decide_eq_true ht]
    refine Run ?_ trivial trivial trivial trivial trivial trivial trivial trivial trivial trivial trivial trivial
    rfl
end Go.Proofs.Ytnjkklkjlloedaa
