/- docs: its methods, by the abstract machine. -/
import Derived.Test.YtnjkklkjlloedaaDcA
import Derived.Test.YtnjkklkjlloedaaEnC
namespace Go.Proofs.Ytnjkklkjlloedaa
open Go.RowKit
set_option linter.unusedVariables false
set_option linter.unusedSimpArgs false
set_option maxRecDepth 10000
/-- What an entry makes of documents. -/
def dapE (D : Dm) (e : En) : Int := if ¬ EnOk e then 10 else if e.kind = 2 ∧ dget D e.name = none then 32 else 0
def dapD (D : Dm) (e : En) : Dm := if EnOk e ∧ e.kind = 1 then dput D e.name e.value else if EnOk e ∧ e.kind = 2 then ddel D e.name else D
theorem DmOk.app {D : Dm} (h : DmOk D) (e : En) : DmOk (dapD D e) := by
  unfold dapD
  split
  · exact h.put _ _
  · split
    · exact h.del _
    · exact h
theorem dapply_sys (D : Dm) (hD : DmOk D) (e : En) (hm : e.Mid) (s m : Int) : ASys Try.prog 30 [.ptr s 0, enA e] (.int .i64 (dapE D e)) [(s, [.map m], [.map m])] [(m, mpD D, mpD (dapD D e))] := by
  refine DcSys.mkP (by simp only [AV.shutL, enA_shut, Bool.and_self]) (by simp [AV.shut]) ?_
  refine ACalls_body Try.func30 rfl rfl ?_
  simp only [Try.ntmps30, List.length_cons, List.length_nil, Nat.reduceAdd, Nat.reduceSub, List.replicate_succ, List.replicate_zero, List.cons_append, List.nil_append]
  have e1 := enright_val e hm
  have hm1 : e.name.length ≤ 9223372036854775807 := by have := hm.1; omega
  have hm2 : e.value.length ≤ 9223372036854775807 := by have := hm.2; omega
  unfold dapE dapD
  by_cases h : EnOk e
  · rw [decide_eq_true h] at e1
    rw [if_neg (by simpa using h)]
    simp only [h, true_and]
    by_cases k1 : e.kind = 1
    · rw [if_neg (by omega), if_pos k1]
      rcases dm_cases hD e.name with ⟨c1, c2, c3, c4⟩ | ⟨l1, w, l2, c1, c2, c3, c4⟩
      · have c5 := dcA_out c1
        refine Run ?_ trivial trivial trivial trivial trivial trivial trivial trivial trivial trivial trivial trivial
        exact ⟨rfl, by show (2 : Int) ≤ 3; omega, rfl, _, rfl, by show (dcA D ++ [(AV.str e.name, AV.str e.value)]).Perm _; rw [dcA_snoc]; exact dcA_perm (c4 _)⟩
      · have c5 : dcA D = dcA l1 ++ (.str e.name, .str w) :: dcA l2 := by rw [c1]; exact dcA_split
        refine Run ?_ trivial trivial trivial trivial trivial trivial trivial trivial trivial trivial trivial trivial
        exact ⟨rfl, by show (2 : Int) ≤ 3; omega, rfl, _, rfl, by show (dcA l1 ++ (AV.str e.name, AV.str e.value) :: dcA l2).Perm _; rw [c4, dcA_split]⟩
    · rw [if_neg k1]
      by_cases k2 : e.kind = 2
      · rw [if_pos k2]
        simp only [k2, true_and]
        rcases dm_cases hD e.name with ⟨c1, c2, c3, c4⟩ | ⟨l1, w, l2, c1, c2, c3, c4⟩
        · have c5 := dcA_out c1
          rw [if_pos c2, c3]
          refine Run ?_ trivial trivial trivial trivial trivial trivial trivial trivial trivial trivial trivial trivial
          exact ⟨rfl, by show (2 : Int) ≤ 3; omega, rfl, _, rfl, List.Perm.refl _⟩
        · have c5 : dcA D = dcA l1 ++ (.str e.name, .str w) :: dcA l2 := by rw [c1]; exact dcA_split
          have c6 : (AV.str e.name, AV.str w) ∈ dcA D := by rw [c5]; simp
          rw [if_neg (by rw [c2]; simp), c3]
          refine Run ?_ trivial trivial trivial trivial trivial trivial trivial trivial trivial trivial trivial trivial
          with_reducible apply S_delete_at (kl := dcA l1) (kr := dcA l2)
          case hx => rfl
          case hy => rfl
          case ho => rfl
          case hk => rfl
          case hm => exact c5
          case ht => rfl
          case hs => rfl
          refine Run ?_ trivial trivial trivial trivial trivial trivial trivial trivial trivial trivial trivial trivial
          exact ⟨rfl, by show (2 : Int) ≤ 3; omega, rfl, _, rfl, by rw [dcA_app]⟩
      · rw [if_neg (by simp [k2]), if_neg k2]
        refine Run ?_ trivial trivial trivial trivial trivial trivial trivial trivial trivial trivial trivial trivial
        exact ⟨rfl, by show (2 : Int) ≤ 3; omega, rfl, _, rfl, List.Perm.refl _⟩
  · rw [decide_eq_false h] at e1
    simp only [h, false_and, if_false, not_false_eq_true, if_true]
    refine Run ?_ trivial trivial trivial trivial trivial trivial trivial trivial trivial trivial trivial trivial
    exact ⟨rfl, by show (2 : Int) ≤ 3; omega, rfl, _, rfl, List.Perm.refl _⟩
theorem dlen_sys (D : Dm) (s m : Int) : ASys Try.prog 37 [.ptr s 0] (.int .i64 (D.length : Int)) [(s, [.map m], [.map m])] [(m, mpD D, mpD D)] := by
  refine DcSys.mk rfl (by simp [AV.shut]) ?_
  refine ACalls_body Try.func37 rfl rfl ?_
  simp only [Try.ntmps37, List.length_cons, List.length_nil, Nat.reduceAdd, Nat.reduceSub, List.replicate_succ, List.replicate_zero, List.cons_append, List.nil_append]
  refine Run ?_ trivial trivial trivial trivial trivial trivial trivial trivial trivial trivial trivial trivial
  with_reducible apply S_len_map
  case hx => rfl
  case ho => rfl
  case hp => rfl
  case hs => exact aput_ok rfl
  refine Run ?_ trivial trivial trivial trivial trivial trivial trivial trivial trivial trivial trivial trivial
  exact ⟨by rw [dcA, List.length_map]; rfl, Int.le_refl _, rfl, rfl⟩
theorem dget_sys (D : Dm) (hD : DmOk D) (k : Nm) (hk : k.length ≤ 9223372036854775807) (s m : Int) : ASys Try.prog 38 [.ptr s 0, bsA k] (.tup [bsA ((dget D k).getD []), .bool (dget D k).isSome]) [(s, [.map m], [.map m])] [(m, mpD D, mpD D)] := by
  refine DcSys.mk (by simp only [AV.shutL, bsA_shut, Bool.and_self]) (by simp only [AV.shut, AV.shutL, shutL_bvA, Bool.and_self]) ?_
  refine ACalls_body Try.func38 rfl rfl ?_
  simp only [Try.ntmps38, List.length_cons, List.length_nil, Nat.reduceAdd, Nat.reduceSub, List.replicate_succ, List.replicate_zero, List.cons_append, List.nil_append]
  rcases dm_cases hD k with ⟨c1, c2, _⟩ | ⟨l1, w, l2, c1, c2, _⟩
  · have c5 := dcA_out c1
    rw [c2]
    refine Run ?_ trivial trivial trivial trivial trivial trivial trivial trivial trivial trivial trivial trivial
    exact ⟨rfl, Int.le_refl _, rfl, rfl⟩
  · have c6 : (AV.str k, AV.str w) ∈ dcA D := by rw [c1, dcA_split]; simp
    rw [c2]
    refine Run ?_ trivial trivial trivial trivial trivial trivial trivial trivial trivial trivial trivial trivial
    exact ⟨by simp only [aone, AV.wk, AV.wkL, AV.wkL_bvA, Option.getD_some, Option.isSome_some], Int.le_refl _, rfl, rfl⟩
/-- Rows of names and values. -/
def dcC (D : Dm) : List AV := D.flatMap fun e => [bsA e.1, bsA e.2]
abbrev dcR (D : Dm) : AV := .sl .none (dcC D) D.length
theorem dcC_shut (D : Dm) : AV.shutL (dcC D) = true := by
  induction D with
  | nil => rfl
  | cons e r ih => simp only [dcC, List.flatMap_cons, List.cons_append, List.nil_append, AV.shutL, bsA_shut, Bool.true_and]; exact ih
theorem dcC_wk (D : Dm) : AV.wkL (dcC D) = dcC D := by
  induction D with
  | nil => rfl
  | cons e r ih => simp only [dcC, List.flatMap_cons, List.cons_append, List.nil_append, AV.wkL, bsA_wk]; exact congrArg _ (congrArg _ ih)
theorem dcC_snoc {D : Dm} {e : Nm × Nm} : dcC D ++ [bsA e.1, bsA e.2] = dcC (D ++ [e]) := by simp [dcC]
theorem dall_sys (D : Dm) (hD : DmOk D) (hn : D.length ≤ 1000) (s m : Int) : ASys Try.prog 32 [.ptr s 0] (dcR D) [(s, [.map m], [.map m])] [(m, mpD D, mpD D)] := by
  refine DcSys.mk rfl (by unfold AV.shut; exact dcC_shut _) ?_
  refine ACalls_body Try.func32 rfl rfl ?_
  simp only [Try.ntmps32, List.length_cons, List.length_nil, Nat.reduceAdd, Nat.reduceSub, List.replicate_succ, List.replicate_zero, List.cons_append, List.nil_append]
  have e1 := sorted_sys D hD hn 2 1
  refine Run ?_ trivial trivial (⟨Try.func66, rfl, rfl⟩ : Inl Try.prog 66 _ _ _) trivial trivial trivial trivial trivial trivial trivial trivial trivial
  refine AOPS_assign (av := .any) rfl rfl ?_
  simp only [aput, List.set_cons_succ, List.set_cons_zero]
  refine Run ?_ trivial trivial trivial trivial trivial trivial trivial trivial trivial trivial trivial trivial
  simp only [aone]
  refine Run ?_ trivial trivial trivial trivial trivial trivial trivial trivial trivial trivial trivial trivial
  refine AWP_adopt 3 2 rfl (by simp only [setF]; rfl) ?_
  refine AWP_loopS [3, 5, 13, 14, 15, 16, 17, 18, 19, 20, 21, 22, 23, 24, 25, 26, 27, 28, 29, 30] (N := Nat × Nat × List AV × List AV) (fun ⟨k, n, cs, js⟩ => [.sl (.tok 3 n 2) cs n, js.getD 0 .und, .int .i64 (k : Int), js.getD 1 .und, js.getD 2 .und, js.getD 3 .und, js.getD 4 .und, js.getD 5 .und, js.getD 6 .und, js.getD 7 .und, js.getD 8 .und, js.getD 9 .und, js.getD 10 .und, js.getD 11 .und, js.getD 12 .und, js.getD 13 .und, js.getD 14 .und, js.getD 15 .und, js.getD 16 .und, js.getD 17 .und]) (fun ⟨k, n, cs, js⟩ => ⟨[(2, [.map 1]), (0, [.map 1])], [(3, n), (1, mpD D)], 4⟩) (fun ⟨k, n, cs, js⟩ => k ≤ D.length ∧ cs = dcC (D.take k) ∧ n = k) (fun ⟨k, n, cs, js⟩ => D.length - k) ⟨0, 0, [], [_, _, _, _, _, _, _, _, _, _, _, _, _, _, _, _, _, _]⟩ rfl rfl ?hi0 ?_
  rotate_left
  rintro ⟨k, n, cs, js⟩ sl_ hs hi
  simp only [setsF, setF, Option.some.injEq] at hs
  subst hs
  case hi0 => exact ⟨by omega, rfl, rfl⟩
  obtain ⟨hk, hcs, hn2⟩ := hi
  have hl1 : ((D.map Prod.fst).length : Int) = (D.length : Int) := by rw [List.length_map]
  by_cases hlt : k < D.length
  · have hel : D[k]? = some D[k] := List.getElem?_eq_getElem hlt
    have hst : dcC (D.take (k + 1)) = dcC (D.take k) ++ [bsA D[k].1, bsA D[k].2] := by rw [List.take_add_one, hel, Option.toList_some, dcC_snoc]
    have hin := dcA_in (List.getElem_mem hlt)
    generalize D[k] = d at hel hst hin
    have hc : ((D.map Prod.fst).map AV.str)[k]? = some (.str d.1) := by rw [List.getElem?_map, List.getElem?_map, hel]; rfl
    refine Run ?_ trivial trivial trivial trivial trivial trivial trivial trivial trivial trivial trivial trivial
    refine ALoopQ_normal ⟨k + 1, n + 1, cs ++ [bsA d.1, bsA d.2], [_, _, _, _, _, _, _, _, _, _, _, _, _, _, _, _, _, _]⟩ rfl rfl ?hi1 ?hm1
    case hi1 => exact ⟨by omega, by rw [hst, hcs], by omega⟩
    case hm1 => simp only; omega
  · obtain rfl : k = D.length := by omega
    rw [List.take_length] at hcs
    subst hcs hn2
    refine Run ?_ trivial trivial trivial trivial trivial trivial trivial trivial trivial trivial trivial trivial
    exact ⟨by simp only [aone]; unfold AV.wk; rw [dcC_wk], by show (2 : Int) ≤ 4; omega, rfl, rfl⟩
end Go.Proofs.Ytnjkklkjlloedaa
