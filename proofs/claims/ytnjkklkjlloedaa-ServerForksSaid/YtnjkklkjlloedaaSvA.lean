/- server: rows of links: clones, membership, by the abstract machine. -/
import Derived.Test.YtnjkklkjlloedaaFrC
import Derived.Test.YtnjkklkjlloedaaBuf3
import Derived.Test.YtnjkklkjlloedaaSys
import Derived.Test.YtnjkklkjlloedaaRng
import Derived.Test.YtnjkklkjlloedaaScp
namespace Go.Proofs.Ytnjkklkjlloedaa
open Go.RowKit
set_option linter.unusedVariables false
set_option linter.unusedSimpArgs false
set_option maxRecDepth 10000
theorem run_eqnil2 {P : Program} {t e : TypeId} (ht : P.underlying t = some (.slice e)) (d : Nat) (w : World) : (Op.equalIn (d + 1) t (.slice none 0 0) (.slice none 0 0)).run P w = .ok true w := by
  simp [Op.equalIn, run_underlying ht]
theorem S_eqnil_nils {P : Program} {ops : Array Oper} {r : List Oper} {sl sl' : List AV} {σ : ASt} {Q : Exit → List AV → ASt → Prop} {dst : Option Tmp} {ty : TypeId} {pos : String} {after : Array Edge} {x y : Operand} {t e : TypeId} {sz by_ : Nat} {t' : TypeId} (hx : aev sl x = .nils) (hy : aev sl y = .nils) [T : TySl P t e sz by_] (hs : aput sl dst (.bool true) = sl') (h : AOPS P ops r sl' σ Q) : AOPS P ops (⟨dst, .binOp .eql t x y t', ty, pos, after, none⟩ :: r) sl σ Q :=
  AOPS_pure (av := .bool true) rfl (fun M a w hr => by
    have h1 := ev1 hr hx
    have h2 := ev1 hr hy
    unfold Reps at h1 h2
    have h8 : ∀ w, (Op.equal t (.slice none 0 0) (.slice none 0 0)).run P w = .ok true w := fun w => run_eqnil2 T.und 9999 w
    exact ⟨.bool true, fun w' L => by simp [execOp, h1, h2, eqGuard_slice, binOp_eql_nil, h8], Reps_bool⟩) hs h
/-- A slice of nothing is nil, or it isn't. -/
theorem S_eqnil_e {P : Program} {ops : Array Oper} {r : List Oper} {sl : List AV} {σ : ASt} {Q : Exit → List AV → ASt → Prop} {dst : Option Tmp} {ty : TypeId} {pos : String} {after : Array Edge} {x y : Operand} {t e : TypeId} {sz by_ : Nat} {own : AOwn} {t' : TypeId} (hx : aev sl x = .sl own [] 0) (hy : aev sl y = .nils) [T : TySl P t e sz by_] (h : ∀ b, AOPS P ops r (aput sl dst (.bool b)) σ Q) : AOPS P ops (⟨dst, .binOp .eql t x y t', ty, pos, after, none⟩ :: r) sl σ Q := by
  refine AOPS_any rfl (fun av σ' => ∃ b, av = .bool b ∧ σ' = σ) (fun base Fi M a w hr => ?_) (fun av σ' hk => ?_)
  · have h1 := ev1 hr.2.1 hx
    have h2 := ev1 hr.2.1 hy
    unfold Reps at h1 h2
    obtain ⟨A, c, vs, h1, h3, h4, h5, h6, h7, _⟩ := h1
    cases A with
    | none =>
      have hc := h5 rfl
      subst hc
      have h8 : ∀ w, (Op.equal t (.slice none 0 0) (.slice none 0 0)).run P w = .ok true w := fun w => run_eqnil2 T.und 9999 w
      exact ⟨_, σ, ⟨true, rfl, rfl⟩, .bool true, w, M, .inl (by simp [execOp, h1, h2, eqGuard_slice, binOp_eql_nil, h8]), Reps_bool, hr.2.2, Stp.refl _ _ _ _⟩
    | some ad =>
      have h8 : ∀ w, (Op.equal t (.slice (some ad) 0 c) (.slice none 0 0)).run P w = .ok false w := fun w => run_eqnil T.und 9999 _ 0 c w
      exact ⟨_, σ, ⟨false, rfl, rfl⟩, .bool false, w, M, .inl (by simp [execOp, h1, h2, eqGuard_slice, binOp_eql_nil, h8]), Reps_bool, hr.2.2, Stp.refl _ _ _ _⟩
  · obtain ⟨b, rfl, rfl⟩ := hk
    exact h b
theorem idx_first {xs : List (List UInt8)} {x : List UInt8} {k : Nat} (h : ∀ j < k, xs.getD j [] ≠ x) (hk : xs[k]? = some x) : xs.idxOf x = k ∧ x ∈ xs := by
  have hm := List.mem_of_getElem? hk
  refine ⟨?_, hm⟩
  have h1 := List.idxOf_lt_length_of_mem hm
  have h2 : xs[xs.idxOf x] = x := List.getElem_idxOf h1
  have hkl := (List.getElem?_eq_some_iff.1 hk).1
  have h4 : xs.idxOf x ≤ k := by
    refine Nat.le_of_not_lt fun hlt => ?_
    have := List.not_of_lt_findIdx (show k < List.findIdx (fun y => y == x) xs from hlt)
    rw [List.getElem?_eq_getElem hkl] at hk
    simp only [Option.some.injEq] at hk
    simp [hk] at this
  have h5 : ¬ xs.idxOf x < k := fun hlt => h _ hlt (by rw [List.getD_eq_getElem?_getD, List.getElem?_eq_getElem h1]; exact h2)
  omega
theorem bclone_val (l : List UInt8) (h0 : 0 < l.length) (hm : l.length ≤ 1000000) : AVal Try.prog 79 [bsA l] (bsA l) := by
  refine AVal.mkw (by simp [AV.shutL, bsA_shut]) (bsA_shut _) ?_
  refine ACalls_body Try.func79 rfl rfl ?_
  simp only [Try.ntmps79, List.length_cons, List.length_nil, Nat.reduceAdd, Nat.reduceSub, List.replicate_succ, List.replicate_zero, List.cons_append, List.nil_append]
  refine Run ?_ trivial trivial trivial trivial trivial trivial trivial trivial trivial trivial trivial trivial
  with_reducible apply S_eqnil_sl
  case hx => rfl
  case hy => rfl
  case h0 => exact h0
  case hs => exact aput_ok rfl
  refine Run ?_ trivial trivial trivial trivial trivial trivial trivial trivial trivial trivial trivial trivial
  rw [aone]
  unfold AV.wk
  rw [AV.wkL_append, AV.wkL_bvA]
  simp only [AV.wkL, List.nil_append, Nat.zero_add]
theorem bsAs_ones (ls : List (List UInt8)) : (ls.map bsA).all AV.one = true := by
  simp only [List.all_eq_true, List.mem_map]
  rintro a ⟨l, _, rfl⟩
  rfl
/-- Texts that are links: none is empty. -/
def LksOk (ls : List (List UInt8)) : Prop := ∀ b ∈ ls, 1 ≤ b.length ∧ b.length ≤ 4096
theorem copied_val (ls : List (List UInt8)) (h : LksOk ls) (hn : ls.length ≤ 1000000) : AVal Try.prog 53 [lkA ls] (lkA ls) := by
  refine AVal.mkw (by simp only [AV.shutL, lkA_shut, Bool.and_self]) (lkA_shut _) ?_
  refine ACalls_body Try.func53 rfl rfl ?_
  simp only [Try.ntmps53, List.length_cons, List.length_nil, Nat.reduceAdd, Nat.reduceSub, List.replicate_succ, List.replicate_zero, List.cons_append, List.nil_append]
  refine Run ?_ trivial trivial trivial trivial trivial trivial trivial trivial trivial trivial trivial trivial
  refine AWP_adopt 3 1 rfl (by simp only [setF]; rfl) ?_
  refine AWP_loopS [3, 5, 6, 7, 8, 9, 10, 11, 12, 13, 14, 15, 16, 17] (N := Nat × Nat × List AV × List AV) (fun ⟨k, n, cs, js⟩ => [.sl (.tok 0 n 1) cs n, js.getD 0 .und, lkA ls, .int .i64 (ls.length : Int), .int .i64 (k : Int), js.getD 1 .und, js.getD 2 .und, js.getD 3 .und, js.getD 4 .und, js.getD 5 .und, js.getD 6 .und, js.getD 7 .und, js.getD 8 .und, js.getD 9 .und]) (fun ⟨k, n, cs, js⟩ => ⟨[], [(0, n)], 1⟩) (fun ⟨k, n, cs, js⟩ => k ≤ ls.length ∧ cs = (ls.take k).map bsA ∧ n = k) (fun ⟨k, n, cs, js⟩ => ls.length - k) ⟨0, 0, [], [_, _, _, _, _, _, _, _, _, _]⟩ rfl rfl ?hi0 ?_
  rotate_left
  rintro ⟨k, n, cs, js⟩ sl_ hs hi
  simp only [setsF, setF, Option.some.injEq] at hs
  subst hs
  case hi0 => exact ⟨by omega, by simp, rfl⟩
  obtain ⟨hk, hx, hl⟩ := hi
  by_cases hlt : k < ls.length
  · have hel : ls[k]? = some ls[k] := List.getElem?_eq_getElem hlt
    have hc : (ls.map bsA)[k]? = some (bsA ls[k]) := by rw [List.getElem?_map, hel]; rfl
    have hsz := h ls[k] (List.getElem_mem hlt)
    have e1 := bclone_val ls[k] (by omega) (by omega)
    refine Run ?_ trivial trivial trivial trivial trivial trivial trivial trivial trivial trivial trivial trivial
    refine ALoopQ_normal ⟨k + 1, _, _, [_, _, _, _, _, _, _, _, _, _]⟩ rfl rfl ?hi1 ?hm1
    case hi1 => exact ⟨by omega, by rw [List.take_add_one, hel, List.map_append, hx]; rfl, by omega⟩
    case hm1 => simp only; omega
  · obtain rfl : k = ls.length := by omega
    rw [List.take_length] at hx
    subst hx hl
    refine Run ?_ trivial trivial trivial trivial trivial trivial trivial trivial trivial trivial trivial trivial
    rw [aone]
    unfold AV.wk
    rw [bsAs_wk]
theorem cloneNil_val : AVal Try.prog 60 [.nils] .nils := by
  refine AVal.mk rfl rfl ?_
  refine ACalls_body Try.func60 rfl rfl ?_
  simp only [Try.ntmps60, List.length_cons, List.length_nil, Nat.reduceAdd, Nat.reduceSub, List.replicate_succ, List.replicate_zero, List.cons_append, List.nil_append]
  refine Run ?_ trivial trivial trivial trivial trivial trivial trivial trivial trivial trivial trivial trivial
  with_reducible apply S_eqnil_nils
  case hx => rfl
  case hy => rfl
  case hs => exact aput_ok rfl
  refine Run ?_ trivial trivial trivial trivial trivial trivial trivial trivial trivial trivial trivial trivial
  rfl
theorem cloneRows_tok1 (ls : List (List UInt8)) (h0 : 0 < ls.length) (hn : ls.length ≤ 1000000) : ATok Try.prog 60 [lkA ls] ls.length 1 (ls.map bsA) ls.length := by
  refine ATok.mk (by simp only [AV.shutL, lkA_shut, Bool.and_self]) (bsAs_shut _) ?_
  refine ACalls_body Try.func60 rfl rfl ?_
  simp only [Try.ntmps60, List.length_cons, List.length_nil, Nat.reduceAdd, Nat.reduceSub, List.replicate_succ, List.replicate_zero, List.cons_append, List.nil_append]
  refine Run ?_ trivial trivial trivial trivial trivial trivial trivial trivial trivial trivial trivial trivial
  with_reducible apply S_eqnil_sl
  case hx => rfl
  case hy => rfl
  case h0 => exact h0
  case hs => exact aput_ok rfl
  refine Run ?_ trivial trivial trivial trivial trivial trivial trivial trivial trivial trivial trivial trivial
  rw [Nat.zero_add, List.nil_append]
  exact ⟨0, rfl, rfl⟩
theorem cloneRows_tokE : ATok Try.prog 60 [.sl .none [] 0] 0 1 [] 0 := by
  refine ATok.mk rfl rfl ?_
  refine ACalls_body Try.func60 rfl rfl ?_
  simp only [Try.ntmps60, List.length_cons, List.length_nil, Nat.reduceAdd, Nat.reduceSub, List.replicate_succ, List.replicate_zero, List.cons_append, List.nil_append]
  refine Run ?_ trivial trivial trivial trivial trivial trivial trivial trivial trivial trivial trivial trivial
  with_reducible apply S_eqnil_e
  case hx => rfl
  case hy => rfl
  intro b
  cases b
  · refine Run ?_ trivial trivial trivial trivial trivial trivial trivial trivial trivial trivial trivial trivial
    exact ⟨0, rfl, rfl⟩
  · refine AOPS_nil ?_
    refine AThen_normal ?_
    refine AWP_cond_t rfl rfl ?_
    refine AWP_seqH ?_
    refine Run ?_ trivial trivial trivial trivial trivial trivial trivial trivial trivial trivial trivial trivial
    refine AHold.go (AThen_normal ?_)
    refine AWP_adopt 2 1 rfl (by simp only [aput, setF]; rfl) ?_
    refine Run ?_ trivial trivial trivial trivial trivial trivial trivial trivial trivial trivial trivial trivial
    exact ⟨0, rfl, rfl⟩
theorem cloneRows_tok (ls : List (List UInt8)) (hn : ls.length ≤ 1000000) : ATok Try.prog 60 [lkA ls] ls.length 1 (ls.map bsA) ls.length := by
  by_cases h0 : 0 < ls.length
  · exact cloneRows_tok1 ls h0 hn
  · obtain rfl : ls = [] := List.eq_nil_of_length_eq_zero (by omega)
    exact cloneRows_tokE
/-- A copy of a row. -/
theorem cloneRowsV_val (ls : List (List UInt8)) (hn : ls.length ≤ 1000000) : AVal Try.prog 60 [lkA ls] (lkA ls) := by
  refine AVal.mkw (by simp only [AV.shutL, lkA_shut, Bool.and_self]) (lkA_shut _) ?_
  by_cases h0 : 0 < ls.length
  · refine ACalls_body Try.func60 rfl rfl ?_
    simp only [Try.ntmps60, List.length_cons, List.length_nil, Nat.reduceAdd, Nat.reduceSub, List.replicate_succ, List.replicate_zero, List.cons_append, List.nil_append]
    refine Run ?_ trivial trivial trivial trivial trivial trivial trivial trivial trivial trivial trivial trivial
    with_reducible apply S_eqnil_sl
    case hx => rfl
    case hy => rfl
    case h0 => exact h0
    case hs => exact aput_ok rfl
    refine Run ?_ trivial trivial trivial trivial trivial trivial trivial trivial trivial trivial trivial trivial
    rw [aone]
    unfold AV.wk
    rw [List.nil_append, bsAs_wk, Nat.zero_add]
  · obtain rfl : ls = [] := List.eq_nil_of_length_eq_zero (by omega)
    refine ACalls_body Try.func60 rfl rfl ?_
    simp only [Try.ntmps60, List.length_cons, List.length_nil, Nat.reduceAdd, Nat.reduceSub, List.replicate_succ, List.replicate_zero, List.cons_append, List.nil_append]
    refine Run ?_ trivial trivial trivial trivial trivial trivial trivial trivial trivial trivial trivial trivial
    with_reducible apply S_eqnil_e
    case hx => rfl
    case hy => rfl
    intro b
    cases b
    · refine Run ?_ trivial trivial trivial trivial trivial trivial trivial trivial trivial trivial trivial trivial
      rfl
    · simp only [aput]
      refine Run ?_ trivial trivial trivial trivial trivial trivial trivial trivial trivial trivial trivial trivial
      rfl
theorem pushF_val (x b : List UInt8) : AVal Try.prog 77 [bsA x, .epr [bsA b] 0] (.bool (x == b)) := by
  refine AVal.mkw (by simp only [AV.shutL, AV.shut, shutL_bvA, Bool.and_self]) (by simp [AV.shut]) ?_
  refine ACalls_body Try.func77 rfl rfl ?_
  simp only [Try.ntmps77, List.length_cons, List.length_nil, Nat.reduceAdd, Nat.reduceSub, List.replicate_succ, List.replicate_zero, List.cons_append, List.nil_append]
  refine Run ?_ trivial trivial (⟨Try.func78, rfl, rfl⟩ : Inl Try.prog 78 _ _ _) trivial trivial trivial trivial trivial trivial trivial trivial trivial
  rfl
theorem indexRows_val (ls : List (List UInt8)) (b : List UInt8) (hn : ls.length ≤ 1000000) : AVal Try.prog 90 [lkA ls, .fn 77 [] [.epr [bsA b] 0]] (.int .i64 (if b ∈ ls then (ls.idxOf b : Int) else -1)) := by
  refine AVal.mkw (by simp only [AV.shutL, lkA_shut, AV.shut, shutL_bvA, Bool.and_self]; rw [bsAs_shut]; rfl) (by simp [AV.shut]) ?_
  refine ACalls_body Try.func90 rfl rfl ?_
  simp only [Try.ntmps90, List.length_cons, List.length_nil, Nat.reduceAdd, Nat.reduceSub, List.replicate_succ, List.replicate_zero, List.cons_append, List.nil_append]
  refine Run ?_ trivial trivial trivial trivial trivial trivial trivial trivial trivial trivial trivial trivial
  refine AWP_loopS [4, 5, 6, 7, 8, 9, 10, 11, 12, 13, 14, 15, 16, 17, 18] (N := Nat × List AV) (fun ⟨k, js⟩ => [js.getD 0 .und, js.getD 1 .und, lkA ls, .int .i64 (ls.length : Int), .int .i64 (k : Int), js.getD 2 .und, js.getD 3 .und, js.getD 4 .und, js.getD 5 .und, js.getD 6 .und, js.getD 7 .und, js.getD 8 .und, js.getD 9 .und, js.getD 10 .und, js.getD 11 .und]) (fun ⟨k, js⟩ => ⟨[], [], 0⟩) (fun ⟨k, js⟩ => k ≤ ls.length ∧ ∀ j < k, ls.getD j [] ≠ b) (fun ⟨k, js⟩ => ls.length - k) ⟨0, [_, _, _, _, _, _, _, _, _, _, _, _]⟩ rfl rfl ?hi0 ?_
  rotate_left
  rintro ⟨k, js⟩ sl_ hs hi
  simp only [setsF, setF, Option.some.injEq] at hs
  subst hs
  case hi0 => exact ⟨by omega, fun j hj => by omega⟩
  obtain ⟨hk, hn2⟩ := hi
  by_cases hlt : k < ls.length
  · have hel : ls[k]? = some ls[k] := List.getElem?_eq_getElem hlt
    have hc : (ls.map bsA)[k]? = some (bsA ls[k]) := by rw [List.getElem?_map, hel]; rfl
    have e1 := pushF_val ls[k] b
    by_cases he : ls[k] = b
    · rw [show (ls[k] == b) = true by simp [he]] at e1
      obtain ⟨i1, i2⟩ := idx_first hn2 (hel.trans (by rw [he]))
      rw [if_pos i2, i1]
      refine Run ?_ trivial trivial trivial trivial trivial trivial trivial trivial trivial trivial trivial trivial
      rfl
    · rw [show (ls[k] == b) = false by simp [he]] at e1
      refine Run ?_ trivial trivial trivial trivial trivial trivial trivial trivial trivial trivial trivial trivial
      refine ALoopQ_normal ⟨k + 1, [_, _, _, _, _, _, _, _, _, _, _, _]⟩ rfl rfl ?hi1 ?hm1
      case hi1 =>
        refine ⟨by omega, fun j hj => ?_⟩
        by_cases hjk : j = k
        · subst hjk
          rw [List.getD_eq_getElem?_getD, hel]
          exact he
        · exact hn2 j (by omega)
      case hm1 => simp only; omega
  · obtain rfl : k = ls.length := by omega
    have hm : b ∉ ls := fun hm => by
      obtain ⟨i, hi, he⟩ := List.getElem_of_mem hm
      exact hn2 i hi (by rw [List.getD_eq_getElem?_getD, List.getElem?_eq_getElem hi]; exact he)
    rw [if_neg hm]
    refine Run ?_ trivial trivial trivial trivial trivial trivial trivial trivial trivial trivial trivial trivial
    rfl
theorem contains_val (ls : List (List UInt8)) (b : List UInt8) (hn : ls.length ≤ 1000000) : AVal Try.prog 76 [lkA ls, .fn 77 [] [.epr [bsA b] 0]] (.bool (decide (b ∈ ls))) := by
  refine AVal.mkw (by simp only [AV.shutL, lkA_shut, AV.shut, shutL_bvA, Bool.and_self]; rw [bsAs_shut]; rfl) (by simp [AV.shut]) ?_
  refine ACalls_body Try.func76 rfl rfl ?_
  simp only [Try.ntmps76, List.length_cons, List.length_nil, Nat.reduceAdd, Nat.reduceSub, List.replicate_succ, List.replicate_zero, List.cons_append, List.nil_append]
  have e1 := indexRows_val ls b hn
  by_cases hm : b ∈ ls
  · rw [if_pos hm] at e1
    rw [decide_eq_true hm]
    refine Run ?_ trivial trivial trivial trivial trivial trivial trivial trivial trivial trivial trivial trivial
    rfl
  · rw [if_neg hm] at e1
    rw [decide_eq_false hm]
    refine Run ?_ trivial trivial trivial trivial trivial trivial trivial trivial trivial trivial trivial trivial
    rfl
end Go.Proofs.Ytnjkklkjlloedaa
