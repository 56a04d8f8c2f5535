/- server: pull, by the abstract machine. -/
import Derived.Test.YtnjkklkjlloedaaSvC
import Derived.Test.YtnjkklkjlloedaaScp
import Derived.Test.YtnjkklkjlloedaaFrP
namespace Go.Proofs.Ytnjkklkjlloedaa
open Go.RowKit
set_option linter.unusedVariables false
set_option linter.unusedSimpArgs false
set_option maxRecDepth 10000
/-- x[l:l+n] of a row of texts. -/
theorem S_sliceRows_lh {P : Program} {ops : Array Oper} {r : List Oper} {sl sl' : List AV} {σ : ASt} {Q : Exit → List AV → ASt → Prop} {dst : Option Tmp} {ty : TypeId} {pos : String} {after : Array Edge} {x y z : Operand} {t e : TypeId} {by_ : Nat} {own : AOwn} {ls : List (List UInt8)} {N l n : Nat} {k k' : IntKind} {i j : Int} (hx : aev sl x = .sl own (ls.map bsA) N) [T : TySl P t e 1 by_] (hy : aev sl y = .int k i) (hz : aev sl z = .int k' j) (hN : N = ls.length) (hl : i = (l : Int)) (hh : j = ((l + n : Nat) : Int)) (hlm : l + n ≤ ls.length) (hs : aput sl dst (lkA ((ls.drop l).take n)) = sl') (h : AOPS P ops r sl' σ Q) : AOPS P ops (⟨dst, .slice t x (some y) (some z) none, ty, pos, after, none⟩ :: r) sl σ Q := by
  subst hN
  refine AOPS_slice_lh hx hy hz hl hh ⟨by omega, hlm⟩ ?_ h
  rw [← hs]
  have h1 : ((ls.drop l).take n).length = n := by rw [List.length_take, List.length_drop]; omega
  simp only [Nat.mul_one, Nat.add_sub_cancel_left, lkA, h1, List.map_take, List.map_drop]
/-- x[:n] of a row of texts. -/
theorem S_sliceRows_h {P : Program} {ops : Array Oper} {r : List Oper} {sl sl' : List AV} {σ : ASt} {Q : Exit → List AV → ASt → Prop} {dst : Option Tmp} {ty : TypeId} {pos : String} {after : Array Edge} {x z : Operand} {t e : TypeId} {by_ : Nat} {own : AOwn} {ls : List (List UInt8)} {N n : Nat} {k' : IntKind} {j : Int} (hx : aev sl x = .sl own (ls.map bsA) N) [T : TySl P t e 1 by_] (hz : aev sl z = .int k' j) (hN : N = ls.length) (hh : j = (n : Int)) (hlm : n ≤ ls.length) (hs : aput sl dst (lkA (ls.take n)) = sl') (h : AOPS P ops r sl' σ Q) : AOPS P ops (⟨dst, .slice t x none (some z) none, ty, pos, after, none⟩ :: r) sl σ Q := by
  subst hN
  refine AOPS_slice_h hx hz hh hlm ?_ h
  rw [← hs]
  have h1 : (ls.take n).length = n := by rw [List.length_take]; omega
  simp only [Nat.mul_one, lkA, h1, List.map_take]
/-- nil[0:0]. -/
theorem S_slice_nils_lh {P : Program} {ops : Array Oper} {r : List Oper} {sl sl' : List AV} {σ : ASt} {Q : Exit → List AV → ASt → Prop} {dst : Option Tmp} {ty : TypeId} {pos : String} {after : Array Edge} {x y z : Operand} {t e : TypeId} {sz by_ : Nat} {k k' : IntKind} {i j : Int} (hx : aev sl x = .nils) [T : TySl P t e sz by_] (hy : aev sl y = .int k i) (hz : aev sl z = .int k' j) (hl : i = 0) (hh : j = 0) (hs : aput sl dst .nils = sl') (h : AOPS P ops r sl' σ Q) : AOPS P ops (⟨dst, .slice t x (some y) (some z) none, ty, pos, after, none⟩ :: r) sl σ Q :=
  AOPS_pure (av := .nils) rfl (fun M a w hr => by
    have h1 := ev1 hr hx
    have h2 := ev1 hr hy
    have h3 := ev1 hr hz
    unfold Reps at h1 h2 h3
    subst hl hh
    have h10 := fun w => T.sizeOf w
    exact ⟨.slice none 0 0, fun w' L => by simp [execOp, h1, h2, h3, Instr.sliceAt, Instr.slice, run_underlying T.und, Instr.sliceBounds, Instr.sliceBound, asIntOf, h10], by unfold Reps; rfl⟩) hs h
/-- A batch. -/
def bt (c : Int) (lg : List (List UInt8)) (k n : Nat) : Fr := ⟨3, c, k, (lg.drop k).take n, []⟩
/-- So many links fit a batch. -/
def pullN (c : Int) (lg : List (List UInt8)) (k : Nat) : Nat → Nat
  | 0 => 0
  | n + 1 => if 32768 < (frB (bt c lg k (n + 1))).length then pullN c lg k n else n + 1
def pullR (c : Int) (lg : List (List UInt8)) (k : Nat) : AV := if lg.length < k then erA 14 else okA (frB (bt c lg k (pullN c lg k (min 8 (lg.length - k)))))
theorem pullR_shut (c : Int) (lg : List (List UInt8)) (k : Nat) : (pullR c lg k).shut = true := by unfold pullR; split; exact erA_shut _; exact okA_shut _
theorem bt_ok {c : Int} {lg : List (List UInt8)} {k n : Nat} (hc : 1 ≤ c ∧ c ≤ 1099511627776) (hk : k ≤ 64) (hl : LksOk lg) (hn : n ≤ 8) : FrOk (bt c lg k n) := by
  refine ⟨hc.1, hc.2, by simp only [bt]; omega, by simp only [bt]; omega, .inr (.inr (.inl ⟨rfl, ⟨by simp only [bt]; omega, by simp only [bt, List.length_take]; omega, ?_⟩, rfl⟩))⟩
  rw [List.any_eq_false]
  intro b hb
  have h := hl b (List.mem_of_mem_drop (List.mem_of_mem_take hb))
  simp only [lkBad, decide_eq_true_eq]
  omega
theorem bt_nil (c : Int) (lg : List (List UInt8)) (k : Nat) : (frB (bt c lg k 0)).length = 26 := by
  rw [frB_eq]
  simp [bt, numB, textB]
theorem bt_enc {c : Int} {lg : List (List UInt8)} {k n : Nat} (hc : 1 ≤ c ∧ c ≤ 1099511627776) (hk : k ≤ 64) (hl : LksOk lg) (hn : n ≤ 8) : AVal Try.prog 47 [.agg [.int .i64 3, .int .i64 c, .int .i64 (k : Int), lkA ((lg.drop k).take n), .sl .none [] 0]] (if 32768 < (frB (bt c lg k n)).length then erA 11 else okA (frB (bt c lg k n))) := by
  have h := encode_val (bt c lg k n) (by simp only [bt, List.length_take]; omega)
  rw [encR, if_pos (bt_ok hc hk hl hn)] at h
  exact h
theorem pull_sys (L : Lg) (h : LgOk L) (b c : Int) (hb : I64 b) (hc : 1 ≤ c ∧ c ≤ 1099511627776) (k : Nat) (hk : k ≤ 64) (s m : Int) : ASys Try.prog 50 [.ptr s 0, .agg [.int .i64 b, .int .i64 c], .int .i64 (k : Int)] (pullR c (getL L (b, c)) k) [(s, [.map m], [.map m])] [(m, mpT L, mpT L)] := by
  refine SvSys.mk (by simp [AV.shutL, AV.shut]) (pullR_shut _ _ _) ?_
  refine ACalls_body Try.func50 rfl rfl ?_
  simp only [Try.ntmps50, List.length_cons, List.length_nil, Nat.reduceAdd, Nat.reduceSub, List.replicate_succ, List.replicate_zero, List.cons_append, List.nil_append]
  have hkf := svK_fit hb (show I64 c from ⟨by omega, by omega⟩)
  have hl := h.links (b, c)
  have hm := h.most (b, c)
  rcases getL_cases L (b, c) with ⟨h1, h2, _⟩ | ⟨l1, w, l2, h1, h2, _⟩
  · have h3 := svA_out h1
    rw [h2]
    refine AWP_seqH ?_
    refine Run ?_ trivial trivial trivial trivial trivial trivial trivial trivial trivial trivial trivial trivial
    refine AHold.go (AThen_normal ?_)
    apply AWP_scopeL 0 (f := fun _ : Unit => []) (st := fun _ => ⟨[], [], 0⟩) (inv := fun _ => False) (μ := fun _ => 0) (m := 0)
    case hf => rfl
    case round => exact fun _ hf => hf.elim
    by_cases g1 : ([] : List (List UInt8)).length < k
    · unfold pullR
      rw [if_pos g1]
      rw [List.length_nil] at g1
      refine Run ?_ trivial trivial trivial trivial trivial trivial trivial trivial trivial trivial trivial trivial
      refine AJumpS_ret ?_
      refine Run ?_ trivial trivial trivial trivial trivial trivial trivial trivial trivial trivial trivial trivial
      exact ⟨rfl, by show (2 : Int) ≤ 3; omega, rfl, rfl⟩
    · unfold pullR
      rw [if_neg g1]
      have g3 : k = 0 := by rw [List.length_nil] at g1; omega
      subst g3
      have e1 : AVal Try.prog 47 [.agg [.int .i64 3, .int .i64 c, .int .i64 ((0 : Nat) : Int), .sl .none [] 0, .sl .none [] 0]] (okA (frB (bt c [] 0 0))) := by
        have e1 := bt_enc (c := c) (lg := []) (k := 0) (n := 0) hc (by omega) (fun b hb => by cases hb) (by omega)
        rwa [if_neg (by rw [bt_nil]; omega)] at e1
      refine Run ?_ trivial trivial trivial trivial trivial trivial trivial trivial trivial trivial trivial trivial
      with_reducible apply S_slice_nils_lh
      case hx => rfl
      case hy => rfl
      case hz => rfl
      case hl => rfl
      case hh => rfl
      case hs => exact aput_ok rfl
      refine Run ?_ trivial trivial trivial trivial trivial trivial trivial trivial trivial trivial trivial trivial
      refine AJumpS_ret ?_
      refine Run ?_ trivial trivial trivial trivial trivial trivial trivial trivial trivial trivial trivial trivial
      exact ⟨by simp only [aone, AV.wk, AV.wkL, AV.wkL_bvA]; rfl, by show (2 : Int) ≤ 4; omega, rfl, rfl⟩
  · have h3 : (AV.agg [AV.int .i64 b, .int .i64 c], lkA w) ∈ svA L := svA_in (k := (b, c)) (by rw [h1]; simp)
    rw [h2] at hl hm ⊢
    refine AWP_seqH ?_
    refine Run ?_ trivial trivial trivial trivial trivial trivial trivial trivial trivial trivial trivial trivial
    refine AHold.go (AThen_normal ?_)
    apply AWP_scopeL (N := Nat × List AV) 0 (f := fun (n, js) => [.ptr 0 0, .agg [.int .i64 b, .int .i64 c], .int .i64 (k : Int), (js.getD 3 .und), .ptr 2 0, (js.getD 5 .und), .nils, .int .i64 0, lkA w, .ptr 3 0, .int .i64 (n : Int), (js.getD 11 .und), (js.getD 12 .und), (js.getD 13 .und), (js.getD 14 .und), (js.getD 15 .und), (js.getD 16 .und), (js.getD 17 .und), (js.getD 18 .und), (js.getD 19 .und), (js.getD 20 .und), (js.getD 21 .und), (js.getD 22 .und), (js.getD 23 .und), (js.getD 24 .und), (js.getD 25 .und), (js.getD 26 .und), (js.getD 27 .und), (js.getD 28 .und), (js.getD 29 .und), (js.getD 30 .und), (js.getD 31 .und), (js.getD 32 .und), (js.getD 33 .und), (js.getD 34 .und), (js.getD 35 .und), (js.getD 36 .und), (js.getD 37 .und), (js.getD 38 .und), (js.getD 39 .und), (js.getD 40 .und), (js.getD 41 .und), (js.getD 42 .und), (js.getD 43 .und), (js.getD 44 .und), (js.getD 45 .und), (js.getD 46 .und), (js.getD 47 .und), (js.getD 48 .und), (js.getD 49 .und)]) (st := fun (n, js) => ⟨[(3, [.int .i64 3, .int .i64 c, .int .i64 (k : Int), js.getD 50 .und, .nils]), (2, [.int .i64 b, .int .i64 c]), (0, [.map 1])], [(1, mpT L)], 4⟩) (inv := fun (n, js) => n ≤ 8 ∧ k + n ≤ w.length ∧ pullN c w k n = pullN c w k (min 8 (w.length - k))) (μ := fun (n, js) => n) (m := 9)
    case hf => rfl
    · by_cases g1 : w.length < k
      · unfold pullR
        rw [if_pos g1]
        refine Run ?_ trivial trivial trivial trivial trivial trivial trivial trivial trivial trivial trivial trivial
        refine AJumpS_ret ?_
        refine Run ?_ trivial trivial trivial trivial trivial trivial trivial trivial trivial trivial trivial trivial
        exact ⟨rfl, by show (2 : Int) ≤ 3; omega, rfl, rfl⟩
      · have g2 : ¬ ((w.length : Int) < (k : Int)) := by omega
        unfold pullR
        rw [if_neg g1]
        refine Run ?_ trivial trivial trivial trivial trivial trivial trivial trivial trivial trivial trivial trivial
        rw [show min (8 : Int) ((w.length : Int) - (k : Int)) = ((min 8 (w.length - k) : Nat) : Int) by omega]
        have hn : min 8 (w.length - k) ≤ 8 ∧ k + min 8 (w.length - k) ≤ w.length := by omega
        generalize min 8 (w.length - k) = n at hn ⊢
        obtain ⟨t, ht⟩ : ∃ t, pullN c w k n = t := ⟨_, rfl⟩
        rw [ht]
        obtain ⟨hn, hn2⟩ := hn
        have e1 := bt_enc (k := k) (n := n) hc hk hl (by omega)
        with_reducible apply S_sliceRows_lh (ls := w)
        case hx => rfl
        case hy => rfl
        case hz => rfl
        case hN => rfl
        case hl => rfl
        case hh => exact (Int.natCast_add _ _).symm
        case hlm => omega
        case hs => exact aput_ok rfl
        by_cases hb1 : 32768 < (frB (bt c w k n)).length
        · rw [if_pos hb1] at e1
          obtain ⟨n, rfl⟩ : ∃ j, n = j + 1 := by
            cases n with
            | zero => rw [bt_nil] at hb1; omega
            | succ j => exact ⟨j, rfl⟩
          rw [pullN, if_pos hb1] at ht
          refine Run ?_ trivial trivial trivial trivial trivial trivial trivial trivial trivial trivial trivial trivial
          rw [show ((n + 1 : Nat) : Int) - 1 = (n : Int) by omega]
          refine AJumpS_goto (n, [.und, .und, .und, _, .und, _, .und, .und, .und, .und, .und, _, _, _, _, _, _, _, _, _, _, _, _, _, _, _, _, _, _, _, _, _, _, _, _, _, _, _, _, _, _, _, _, _, _, _, _, _, _, _, _]) rfl (ASub.refl _) ⟨by omega, by omega, ht⟩ (by exact (by omega : n < 9))
        · rw [if_neg hb1] at e1
          have ht2 : pullN c w k n = n := by
            cases n with
            | zero => rfl
            | succ j => rw [pullN, if_neg hb1]
          rw [ht2] at ht
          subst ht
          refine Run ?_ trivial trivial trivial trivial trivial trivial trivial trivial trivial trivial trivial trivial
          refine AJumpS_ret ?_
          refine Run ?_ trivial trivial trivial trivial trivial trivial trivial trivial trivial trivial trivial trivial
          exact ⟨by simp only [aone, AV.wk, AV.wkL, AV.wkL_bvA], by show (2 : Int) ≤ 4; omega, rfl, rfl⟩
    · rintro ⟨n, js⟩ ⟨hn, hn2, ht⟩
      have g1 : ¬ w.length < k := by omega
      unfold pullR
      rw [if_neg g1]
      generalize pullN c w k (min 8 (w.length - k)) = t at ht ⊢
      refine Run ?_ trivial trivial trivial trivial trivial trivial trivial trivial trivial trivial trivial trivial
      have e1 := bt_enc (k := k) (n := n) hc hk hl (by omega)
      with_reducible apply S_sliceRows_lh (ls := w)
      case hx => rfl
      case hy => rfl
      case hz => rfl
      case hN => rfl
      case hl => rfl
      case hh => exact (Int.natCast_add _ _).symm
      case hlm => omega
      case hs => exact aput_ok rfl
      by_cases hb1 : 32768 < (frB (bt c w k n)).length
      · rw [if_pos hb1] at e1
        obtain ⟨n, rfl⟩ : ∃ j, n = j + 1 := by
          cases n with
          | zero => rw [bt_nil] at hb1; omega
          | succ j => exact ⟨j, rfl⟩
        rw [pullN, if_pos hb1] at ht
        refine Run ?_ trivial trivial trivial trivial trivial trivial trivial trivial trivial trivial trivial trivial
        rw [show ((n + 1 : Nat) : Int) - 1 = (n : Int) by omega]
        refine AJumpS_goto (n, [.und, .und, .und, _, .und, _, .und, .und, .und, .und, .und, _, _, _, _, _, _, _, _, _, _, _, _, _, _, _, _, _, _, _, _, _, _, _, _, _, _, _, _, _, _, _, _, _, _, _, _, _, _, _, _]) rfl (ASub.refl _) ⟨by omega, by omega, ht⟩ (by exact Nat.lt_succ_self _)
      · rw [if_neg hb1] at e1
        have ht2 : pullN c w k n = n := by
          cases n with
          | zero => rfl
          | succ j => rw [pullN, if_neg hb1]
        rw [ht2] at ht
        subst ht
        refine Run ?_ trivial trivial trivial trivial trivial trivial trivial trivial trivial trivial trivial trivial
        refine AJumpS_ret ?_
        refine Run ?_ trivial trivial trivial trivial trivial trivial trivial trivial trivial trivial trivial trivial
        exact ⟨by simp only [aone, AV.wk, AV.wkL, AV.wkL_bvA], by show (2 : Int) ≤ 4; omega, rfl, rfl⟩
end Go.Proofs.Ytnjkklkjlloedaa
