/- docs: the reference's Get and Apply, by the abstract machine. -/
import Derived.Test.YtnjkklkjlloedaaDcD
namespace Go.Proofs.Ytnjkklkjlloedaa
open Go.RowKit
set_option linter.unusedVariables false
set_option linter.unusedSimpArgs false
set_option maxRecDepth 10000
theorem refGet11_yes (D : Dm) (hD : DmOk D) (hl : DmLen D) (hn : D.length ≤ 1000) {i : Nat} {e : Nm × Nm} (he : D[i]? = some e) : AVal Try.prog 39 [dcR D, bsA e.1] (.int .i64 (i : Int)) := by
  refine AVal.mkw (by simp only [AV.shutL, dcR_shut, bsA_shut, Bool.and_self]) (by simp [AV.shut]) ?_
  refine ACalls_body Try.func39 rfl rfl ?_
  simp only [Try.ntmps39, List.length_cons, List.length_nil, Nat.reduceAdd, Nat.reduceSub, List.replicate_succ, List.replicate_zero, List.cons_append, List.nil_append]
  have hil := (List.getElem?_eq_some_iff.1 he).1
  have hel := (hl e (List.mem_of_getElem? he)).1
  refine Run ?_ trivial trivial trivial trivial trivial trivial trivial trivial trivial trivial trivial trivial
  refine AWP_loopS [4, 5, 6, 7, 8, 9, 10, 11, 12, 13, 14, 15, 16, 17, 18, 19, 20, 21] (N := Nat × List AV) (fun ⟨k, js⟩ => [js.getD 0 .und, .int .i64 (k : Int), js.getD 1 .und, js.getD 2 .und, js.getD 3 .und, js.getD 4 .und, js.getD 5 .und, js.getD 6 .und, js.getD 7 .und, js.getD 8 .und, js.getD 9 .und, js.getD 10 .und, js.getD 11 .und, js.getD 12 .und, js.getD 13 .und, js.getD 14 .und, js.getD 15 .und, js.getD 16 .und]) (fun ⟨k, js⟩ => ⟨[], [], 0⟩) (fun ⟨k, js⟩ => k ≤ i) (fun ⟨k, js⟩ => D.length - k) ⟨0, [_, _, _, _, _, _, _, _, _, _, _, _, _, _, _, _, _]⟩ rfl rfl ?hi0 ?_
  rotate_left
  rintro ⟨k, js⟩ sl_ hs hi
  simp only [setsF, setF, Option.some.injEq] at hs
  subst hs
  case hi0 => exact Nat.zero_le _
  have hc : D[k]? = some (D[k]'(by omega)) := List.getElem?_eq_getElem (by omega)
  have l1 := hl _ (List.getElem_mem (show k < D.length by omega))
  by_cases hk : k = i
  · subst hk
    have f1 := dcC_name he
    refine Run ?_ trivial trivial trivial trivial trivial trivial trivial trivial trivial trivial trivial trivial
    rfl
  · have hne : (D[k]'(by omega)).1 ≠ e.1 := by
      obtain ⟨_, h3⟩ := List.getElem?_eq_some_iff.1 he
      have := List.pairwise_iff_getElem.1 hD k i (by omega) hil (by omega)
      rw [h3] at this
      intro h
      rw [h] at this
      exact nm_irr _ this
    generalize D[k]'(by omega) = d at hc l1 hne
    have f1 := dcC_name hc
    refine Run ?_ trivial trivial trivial trivial trivial trivial trivial trivial trivial trivial trivial trivial
    refine ALoopQ_normal ⟨k + 1, [_, _, _, _, _, _, _, _, _, _, _, _, _, _, _, _, _]⟩ rfl rfl ?hi1 ?hm1
    case hi1 => omega
    case hm1 => simp only; omega
theorem refGet11_no (D : Dm) (hl : DmLen D) (hn : D.length ≤ 1000) {nm : Nm} (hm : nm.length ≤ 1000000) (he : ∀ e ∈ D, e.1 ≠ nm) : AVal Try.prog 39 [dcR D, bsA nm] (.int .i64 (-1)) := by
  refine AVal.mkw (by simp only [AV.shutL, dcR_shut, bsA_shut, Bool.and_self]) (by simp [AV.shut]) ?_
  refine ACalls_body Try.func39 rfl rfl ?_
  simp only [Try.ntmps39, List.length_cons, List.length_nil, Nat.reduceAdd, Nat.reduceSub, List.replicate_succ, List.replicate_zero, List.cons_append, List.nil_append]
  refine Run ?_ trivial trivial trivial trivial trivial trivial trivial trivial trivial trivial trivial trivial
  refine AWP_loopS [4, 5, 6, 7, 8, 9, 10, 11, 12, 13, 14, 15, 16, 17, 18, 19, 20, 21] (N := Nat × List AV) (fun ⟨k, js⟩ => [js.getD 0 .und, .int .i64 (k : Int), js.getD 1 .und, js.getD 2 .und, js.getD 3 .und, js.getD 4 .und, js.getD 5 .und, js.getD 6 .und, js.getD 7 .und, js.getD 8 .und, js.getD 9 .und, js.getD 10 .und, js.getD 11 .und, js.getD 12 .und, js.getD 13 .und, js.getD 14 .und, js.getD 15 .und, js.getD 16 .und]) (fun ⟨k, js⟩ => ⟨[], [], 0⟩) (fun ⟨k, js⟩ => k ≤ D.length) (fun ⟨k, js⟩ => D.length - k) ⟨0, [_, _, _, _, _, _, _, _, _, _, _, _, _, _, _, _, _]⟩ rfl rfl ?hi0 ?_
  rotate_left
  rintro ⟨k, js⟩ sl_ hs hi
  simp only [setsF, setF, Option.some.injEq] at hs
  subst hs
  case hi0 => exact Nat.zero_le _
  by_cases hlt : k < D.length
  · have hc : D[k]? = some D[k] := List.getElem?_eq_getElem hlt
    have l1 := hl _ (List.getElem_mem hlt)
    have hne := he _ (List.getElem_mem hlt)
    generalize D[k] = d at hc l1 hne
    have f1 := dcC_name hc
    refine Run ?_ trivial trivial trivial trivial trivial trivial trivial trivial trivial trivial trivial trivial
    refine ALoopQ_normal ⟨k + 1, [_, _, _, _, _, _, _, _, _, _, _, _, _, _, _, _, _]⟩ rfl rfl ?hi1 ?hm1
    case hi1 => omega
    case hm1 => simp only; omega
  · obtain rfl : k = D.length := by omega
    refine Run ?_ trivial trivial trivial trivial trivial trivial trivial trivial trivial trivial trivial trivial
    rfl
theorem blt {a b : Nm} (h : a < b) : (!Op.bytesLess a b) = false := by rw [bytesLess_eq, decide_eq_true h]; rfl
theorem bnlt {a b : Nm} (h : ¬ a < b) : (!Op.bytesLess a b) = true := by rw [bytesLess_eq, decide_eq_false h]; rfl
/-- What is put out so far. -/
def dpre (dn : Bool) (A : Dm) (k v : Nm) : Dm := if dn then dput A k v else A
theorem refApply11_other (D : Dm) (e : En) (hk : 2 < e.kind) : AVal Try.prog 36 [dcR D, enA e] (.tup [dcR D, .int .i64 0]) := by
  refine AVal.mkw (by simp only [AV.shutL, dcR_shut, enA_shut, Bool.and_self]) (by simp only [AV.shut, AV.shutL, dcC_shut, Bool.and_self]) ?_
  refine ACalls_body Try.func36 rfl rfl ?_
  simp only [Try.ntmps36, List.length_cons, List.length_nil, Nat.reduceAdd, Nat.reduceSub, List.replicate_succ, List.replicate_zero, List.cons_append, List.nil_append]
  refine Run ?_ trivial trivial trivial trivial trivial trivial trivial trivial trivial trivial trivial trivial
  simp only [aone, AV.wk, AV.wkL, dcC_wk]
set_option maxHeartbeats 4000000 in
theorem refApply11_put (D : Dm) (hD : DmOk D) (hl : DmLen D) (hn : D.length ≤ 1000) (e : En) (hk : e.kind = 1) (hm : e.name.length ≤ 1000000) : AVal Try.prog 36 [dcR D, enA e] (.tup [dcR (dput D e.name e.value), .int .i64 0]) := by
  refine AVal.mkw (by simp only [AV.shutL, dcR_shut, enA_shut, Bool.and_self]) (by simp only [AV.shut, AV.shutL, dcC_shut, Bool.and_self]) ?_
  refine ACalls_body Try.func36 rfl rfl ?_
  simp only [Try.ntmps36, List.length_cons, List.length_nil, Nat.reduceAdd, Nat.reduceSub, List.replicate_succ, List.replicate_zero, List.cons_append, List.nil_append]
  refine Run ?_ trivial trivial trivial trivial trivial trivial trivial trivial trivial trivial trivial trivial
  refine AWP_adopt 6 2 rfl (by simp only [setF]; rfl) ?_
  refine AWP_loopS [6, 7, 8, 9, 10, 15, 16, 17, 18, 19, 20, 21, 22, 23, 24, 25, 26, 27, 28, 29, 30, 31, 32, 33, 34, 35, 36, 37, 38, 39, 40, 41, 42, 43, 44, 45, 46, 47, 48, 49, 50, 51, 52, 53, 54, 55, 56, 57, 58, 59, 60, 61, 62, 63, 64, 65, 66, 67, 68, 69, 70] (N := Nat × Nat × List AV × Bool × Bool × List AV) (fun ⟨k, n, cs, th, dn, js⟩ => [.sl (.tok 1 n 2) cs n, .bool th, .bool dn, .int .i64 (k : Int), js.getD 0 .und, js.getD 1 .und, js.getD 2 .und, js.getD 3 .und, js.getD 4 .und, js.getD 5 .und, js.getD 6 .und, js.getD 7 .und, js.getD 8 .und, js.getD 9 .und, js.getD 10 .und, js.getD 11 .und, js.getD 12 .und, js.getD 13 .und, js.getD 14 .und, js.getD 15 .und, js.getD 16 .und, js.getD 17 .und, js.getD 18 .und, js.getD 19 .und, js.getD 20 .und, js.getD 21 .und, js.getD 22 .und, js.getD 23 .und, js.getD 24 .und, js.getD 25 .und, js.getD 26 .und, js.getD 27 .und, js.getD 28 .und, js.getD 29 .und, js.getD 30 .und, js.getD 31 .und, js.getD 32 .und, js.getD 33 .und, js.getD 34 .und, js.getD 35 .und, js.getD 36 .und, js.getD 37 .und, js.getD 38 .und, js.getD 39 .und, js.getD 40 .und, js.getD 41 .und, js.getD 42 .und, js.getD 43 .und, js.getD 44 .und, js.getD 45 .und, js.getD 46 .und, js.getD 47 .und, js.getD 48 .und, js.getD 49 .und, js.getD 50 .und, js.getD 51 .und, js.getD 52 .und, js.getD 53 .und, js.getD 54 .und, js.getD 55 .und, js.getD 56 .und]) (fun ⟨k, n, cs, th, dn, js⟩ => ⟨[(0, enC e)], [(1, n)], 2⟩) (fun ⟨k, n, cs, th, dn, js⟩ => k ≤ D.length ∧ cs = dcC (dpre dn (D.take k) e.name e.value) ∧ n = (dpre dn (D.take k) e.name e.value).length ∧ (dn = false → ∀ x ∈ D.take k, x.1 < e.name) ∧ (dn = true → ∃ x ∈ D.take k, ¬ x.1 < e.name)) (fun ⟨k, n, cs, th, dn, js⟩ => D.length - k) ⟨0, 0, [], false, false, [_, _, _, _, _, _, _, _, _, _, _, _, _, _, _, _, _, _, _, _, _, _, _, _, _, _, _, _, _, _, _, _, _, _, _, _, _, _, _, _, _, _, _, _, _, _, _, _, _, _, _, _, _, _, _, _, _]⟩ rfl rfl ?hi0 ?_
  rotate_left
  rintro ⟨k, n, cs, th, dn, js⟩ sl_ hs hi
  simp only [setsF, setF, Option.some.injEq] at hs
  subst hs
  case hi0 => exact ⟨by omega, rfl, rfl, (fun _ x hx => by simp at hx), (fun h => by cases h)⟩
  obtain ⟨hkn, hcs, hnn, hf, ht⟩ := hi
  by_cases hlt : k < D.length
  · have hc : D[k]? = some D[k] := List.getElem?_eq_getElem hlt
    have hst : D.take (k + 1) = D.take k ++ [D[k]] := by rw [List.take_add_one, hc]; rfl
    have hok : DmOk (D.take k ++ [D[k]]) := by rw [← hst]; exact List.Pairwise.sublist (List.take_sublist _ _) hD
    have l1 := hl _ (List.getElem_mem hlt)
    have hgt : ∀ x ∈ D.take k, x.1 < D[k].1 := fun x hx => (List.pairwise_append.1 hok).2.2 x hx _ (List.mem_singleton.2 rfl)
    have hlen : (D.take k).length = k := by rw [List.length_take]; omega
    generalize D[k] = d at hc hst hok l1 hgt
    have f1 := dcC_name hc
    have f2 := dcC_load hc
    have hpl : (dpre dn (D.take k) e.name e.value).length ≤ k + 1 := by
      unfold dpre
      split
      · have := dput_len (D.take k) e.name e.value; omega
      · omega
    generalize D.take k = A at hst hcs hnn hf ht hok hgt hlen hpl
    cases dn with
    | true =>
      obtain ⟨x, hx, hxn⟩ := ht rfl
      have hne : d.1 ≠ e.name := fun h => hxn (by rw [← h]; exact hgt x hx)
      have hr : dpre true (A ++ [d]) e.name e.value = dpre true A e.name e.value ++ [d] := dput_app_hi ⟨x, hx, hxn⟩ hok (fun b hb => by rw [List.mem_singleton.1 hb]; exact hne)
      cases th
      · refine Run ?_ trivial trivial trivial trivial trivial trivial trivial trivial trivial trivial trivial trivial
        refine ALoopQ_normal ⟨k + 1, n + 1, cs ++ [bsA d.1, bsA d.2], _, true, [_, _, _, _, _, _, _, _, _, _, _, _, _, _, _, _, _, _, _, _, _, _, _, _, _, _, _, _, _, _, _, _, _, _, _, _, _, _, _, _, _, _, _, _, _, _, _, _, _, _, _, _, _, _, _, _, _]⟩ rfl rfl ?hi1 ?hm1
        case hi1 => exact ⟨by omega, by rw [hst, hr, hcs, dcC_snoc], by rw [hst, hr, hnn, List.length_append]; rfl, (fun h => by cases h), fun _ => ⟨x, by rw [hst]; exact List.mem_append.2 (.inl hx), hxn⟩⟩
        case hm1 => simp only; omega
      · refine Run ?_ trivial trivial trivial trivial trivial trivial trivial trivial trivial trivial trivial trivial
        refine ALoopQ_normal ⟨k + 1, n + 1, cs ++ [bsA d.1, bsA d.2], _, true, [_, _, _, _, _, _, _, _, _, _, _, _, _, _, _, _, _, _, _, _, _, _, _, _, _, _, _, _, _, _, _, _, _, _, _, _, _, _, _, _, _, _, _, _, _, _, _, _, _, _, _, _, _, _, _, _, _]⟩ rfl rfl ?hi1 ?hm1
        case hi1 => exact ⟨by omega, by rw [hst, hr, hcs, dcC_snoc], by rw [hst, hr, hnn, List.length_append]; rfl, (fun h => by cases h), fun _ => ⟨x, by rw [hst]; exact List.mem_append.2 (.inl hx), hxn⟩⟩
        case hm1 => simp only; omega
    | false =>
      have hA := hf rfl
      simp only [dpre, Bool.false_eq_true, if_false] at hcs hnn hpl
      by_cases hlt2 : d.1 < e.name
      · have hb := blt hlt2
        have hne : d.1 ≠ e.name := fun h => by rw [h] at hlt2; exact nm_irr _ hlt2
        cases th
        · refine Run ?_ trivial trivial trivial trivial trivial trivial trivial trivial trivial trivial trivial trivial
          refine ALoopQ_normal ⟨k + 1, n + 1, cs ++ [bsA d.1, bsA d.2], _, false, [_, _, _, _, _, _, _, _, _, _, _, _, _, _, _, _, _, _, _, _, _, _, _, _, _, _, _, _, _, _, _, _, _, _, _, _, _, _, _, _, _, _, _, _, _, _, _, _, _, _, _, _, _, _, _, _, _]⟩ rfl rfl ?hi1 ?hm1
          case hi1 => exact ⟨by omega, by rw [hst, hcs, dcC_snoc]; rfl, by rw [hst, hnn]; show A.length + 1 = (A ++ [d]).length; rw [List.length_append]; rfl, (fun _ x hx => by rw [hst] at hx; rcases List.mem_append.1 hx with hx | hx; exact hA x hx; rw [List.mem_singleton.1 hx]; exact hlt2), (fun h => by cases h)⟩
          case hm1 => simp only; omega
        · refine Run ?_ trivial trivial trivial trivial trivial trivial trivial trivial trivial trivial trivial trivial
          refine ALoopQ_normal ⟨k + 1, n + 1, cs ++ [bsA d.1, bsA d.2], _, false, [_, _, _, _, _, _, _, _, _, _, _, _, _, _, _, _, _, _, _, _, _, _, _, _, _, _, _, _, _, _, _, _, _, _, _, _, _, _, _, _, _, _, _, _, _, _, _, _, _, _, _, _, _, _, _, _, _]⟩ rfl rfl ?hi1 ?hm1
          case hi1 => exact ⟨by omega, by rw [hst, hcs, dcC_snoc]; rfl, by rw [hst, hnn]; show A.length + 1 = (A ++ [d]).length; rw [List.length_append]; rfl, (fun _ x hx => by rw [hst] at hx; rcases List.mem_append.1 hx with hx | hx; exact hA x hx; rw [List.mem_singleton.1 hx]; exact hlt2), (fun h => by cases h)⟩
          case hm1 => simp only; omega
      · have hb := bnlt hlt2
        by_cases hne : d.1 = e.name
        · have hr : dpre true (A ++ [d]) e.name e.value = A ++ [(e.name, e.value)] := by
            show dput (A ++ [d]) e.name e.value = _
            rw [dput_app_lo hA, dput, if_neg (by rw [hne]; exact nm_irr _), if_pos hne]
          cases th
          · refine Run ?_ trivial trivial trivial trivial trivial trivial trivial trivial trivial trivial trivial trivial
            refine ALoopQ_normal ⟨k + 1, n + 1, cs ++ [bsA e.name, bsA e.value], _, true, [_, _, _, _, _, _, _, _, _, _, _, _, _, _, _, _, _, _, _, _, _, _, _, _, _, _, _, _, _, _, _, _, _, _, _, _, _, _, _, _, _, _, _, _, _, _, _, _, _, _, _, _, _, _, _, _, _]⟩ rfl rfl ?hi1 ?hm1
            case hi1 => exact ⟨by omega, by rw [hst, hr, hcs, ← dcC_snoc], by rw [hst, hr, hnn, List.length_append]; rfl, (fun h => by cases h), fun _ => ⟨d, by rw [hst]; simp, hlt2⟩⟩
            case hm1 => simp only; omega
          · refine Run ?_ trivial trivial trivial trivial trivial trivial trivial trivial trivial trivial trivial trivial
            refine ALoopQ_normal ⟨k + 1, n + 1, cs ++ [bsA e.name, bsA e.value], _, true, [_, _, _, _, _, _, _, _, _, _, _, _, _, _, _, _, _, _, _, _, _, _, _, _, _, _, _, _, _, _, _, _, _, _, _, _, _, _, _, _, _, _, _, _, _, _, _, _, _, _, _, _, _, _, _, _, _]⟩ rfl rfl ?hi1 ?hm1
            case hi1 => exact ⟨by omega, by rw [hst, hr, hcs, ← dcC_snoc], by rw [hst, hr, hnn, List.length_append]; rfl, (fun h => by cases h), fun _ => ⟨d, by rw [hst]; simp, hlt2⟩⟩
            case hm1 => simp only; omega
        · have hr : dpre true (A ++ [d]) e.name e.value = A ++ [(e.name, e.value)] ++ [d] := by
            show dput (A ++ [d]) e.name e.value = _
            rw [dput_app_lo hA, dput, if_pos (nm_lt hlt2 (Ne.symm hne)), List.append_assoc]
            rfl
          cases th
          · refine Run ?_ trivial trivial trivial trivial trivial trivial trivial trivial trivial trivial trivial trivial
            refine ALoopQ_normal ⟨k + 1, n + 1 + 1, cs ++ [bsA e.name, bsA e.value] ++ [bsA d.1, bsA d.2], _, true, [_, _, _, _, _, _, _, _, _, _, _, _, _, _, _, _, _, _, _, _, _, _, _, _, _, _, _, _, _, _, _, _, _, _, _, _, _, _, _, _, _, _, _, _, _, _, _, _, _, _, _, _, _, _, _, _, _]⟩ rfl rfl ?hi1 ?hm1
            case hi1 => exact ⟨by omega, by rw [hst, hr, hcs, ← dcC_snoc, ← dcC_snoc], by rw [hst, hr, hnn, List.length_append, List.length_append]; rfl, (fun h => by cases h), fun _ => ⟨d, by rw [hst]; simp, hlt2⟩⟩
            case hm1 => simp only; omega
          · refine Run ?_ trivial trivial trivial trivial trivial trivial trivial trivial trivial trivial trivial trivial
            refine ALoopQ_normal ⟨k + 1, n + 1 + 1, cs ++ [bsA e.name, bsA e.value] ++ [bsA d.1, bsA d.2], _, true, [_, _, _, _, _, _, _, _, _, _, _, _, _, _, _, _, _, _, _, _, _, _, _, _, _, _, _, _, _, _, _, _, _, _, _, _, _, _, _, _, _, _, _, _, _, _, _, _, _, _, _, _, _, _, _, _, _]⟩ rfl rfl ?hi1 ?hm1
            case hi1 => exact ⟨by omega, by rw [hst, hr, hcs, ← dcC_snoc, ← dcC_snoc], by rw [hst, hr, hnn, List.length_append, List.length_append]; rfl, (fun h => by cases h), fun _ => ⟨d, by rw [hst]; simp, hlt2⟩⟩
            case hm1 => simp only; omega
  · obtain rfl : k = D.length := by omega
    rw [List.take_length] at hcs hnn hf ht
    have hpl := dput_len D e.name e.value
    cases dn with
    | true =>
      subst hcs hnn
      refine Run ?_ trivial trivial trivial trivial trivial trivial trivial trivial trivial trivial trivial trivial
      simp only [aone, AV.wk, AV.wkL, dcC_wk, dpre, if_true]
    | false =>
      have hr : dput D e.name e.value = D ++ [(e.name, e.value)] := by
        have := dput_app_lo (B := []) (v := e.value) (hf rfl)
        rwa [List.append_nil] at this
      simp only [dpre, Bool.false_eq_true, if_false] at hcs hnn
      subst hcs hnn
      refine Run ?_ trivial trivial trivial trivial trivial trivial trivial trivial trivial trivial trivial trivial
      have hq : dcR (D ++ [(e.name, e.value)]) = .sl .none (dcC D ++ [bsA e.name, bsA e.value]) (D.length + 1) := by
        rw [dcR, ← dcC_snoc, List.length_append]
        rfl
      rw [hr, hq]
      simp only [aone, AV.wk, AV.wkL, dcC_wk, AV.wkL_append, AV.wkL_bvA]
set_option maxHeartbeats 4000000 in
theorem refApply11_drop (D : Dm) (hD : DmOk D) (hl : DmLen D) (hn : D.length ≤ 1000) (e : En) (hk : e.kind = 2) (hm : e.name.length ≤ 1000000) : AVal Try.prog 36 [dcR D, enA e] (.tup [dcR (ddel D e.name), .int .i64 (if dget D e.name = none then 32 else 0)]) := by
  refine AVal.mkw (by simp only [AV.shutL, dcR_shut, enA_shut, Bool.and_self]) (by simp only [AV.shut, AV.shutL, dcC_shut, Bool.and_self]) ?_
  refine ACalls_body Try.func36 rfl rfl ?_
  simp only [Try.ntmps36, List.length_cons, List.length_nil, Nat.reduceAdd, Nat.reduceSub, List.replicate_succ, List.replicate_zero, List.cons_append, List.nil_append]
  refine Run ?_ trivial trivial trivial trivial trivial trivial trivial trivial trivial trivial trivial trivial
  refine AWP_adopt 6 2 rfl (by simp only [setF]; rfl) ?_
  refine AWP_loopS [6, 7, 8, 9, 10, 15, 16, 17, 18, 19, 20, 21, 22, 23, 24, 25, 26, 27, 28, 29, 30, 31, 32, 33, 34, 35, 36, 37, 38, 39, 40, 41, 42, 43, 44, 45, 46, 47, 48, 49, 50, 51, 52, 53, 54, 55, 56, 57, 58, 59, 60, 61, 62, 63, 64, 65, 66, 67, 68, 69, 70] (N := Nat × Nat × List AV × Bool × List AV) (fun ⟨k, n, cs, th, js⟩ => [.sl (.tok 1 n 2) cs n, .bool th, .bool false, .int .i64 (k : Int), js.getD 0 .und, js.getD 1 .und, js.getD 2 .und, js.getD 3 .und, js.getD 4 .und, js.getD 5 .und, js.getD 6 .und, js.getD 7 .und, js.getD 8 .und, js.getD 9 .und, js.getD 10 .und, js.getD 11 .und, js.getD 12 .und, js.getD 13 .und, js.getD 14 .und, js.getD 15 .und, js.getD 16 .und, js.getD 17 .und, js.getD 18 .und, js.getD 19 .und, js.getD 20 .und, js.getD 21 .und, js.getD 22 .und, js.getD 23 .und, js.getD 24 .und, js.getD 25 .und, js.getD 26 .und, js.getD 27 .und, js.getD 28 .und, js.getD 29 .und, js.getD 30 .und, js.getD 31 .und, js.getD 32 .und, js.getD 33 .und, js.getD 34 .und, js.getD 35 .und, js.getD 36 .und, js.getD 37 .und, js.getD 38 .und, js.getD 39 .und, js.getD 40 .und, js.getD 41 .und, js.getD 42 .und, js.getD 43 .und, js.getD 44 .und, js.getD 45 .und, js.getD 46 .und, js.getD 47 .und, js.getD 48 .und, js.getD 49 .und, js.getD 50 .und, js.getD 51 .und, js.getD 52 .und, js.getD 53 .und, js.getD 54 .und, js.getD 55 .und, js.getD 56 .und]) (fun ⟨k, n, cs, th, js⟩ => ⟨[(0, enC e)], [(1, n)], 2⟩) (fun ⟨k, n, cs, th, js⟩ => k ≤ D.length ∧ cs = dcC (ddel (D.take k) e.name) ∧ n = (ddel (D.take k) e.name).length ∧ (th = false → ∀ x ∈ D.take k, x.1 ≠ e.name) ∧ (th = true → ∃ x ∈ D.take k, x.1 = e.name)) (fun ⟨k, n, cs, th, js⟩ => D.length - k) ⟨0, 0, [], false, [_, _, _, _, _, _, _, _, _, _, _, _, _, _, _, _, _, _, _, _, _, _, _, _, _, _, _, _, _, _, _, _, _, _, _, _, _, _, _, _, _, _, _, _, _, _, _, _, _, _, _, _, _, _, _, _, _]⟩ rfl rfl ?hi0 ?_
  rotate_left
  rintro ⟨k, n, cs, th, js⟩ sl_ hs hi
  simp only [setsF, setF, Option.some.injEq] at hs
  subst hs
  case hi0 => exact ⟨by omega, rfl, rfl, (fun _ x hx => by simp at hx), (fun h => by cases h)⟩
  obtain ⟨hkn, hcs, hnn, hf, ht⟩ := hi
  by_cases hlt : k < D.length
  · have hc : D[k]? = some D[k] := List.getElem?_eq_getElem hlt
    have hst : D.take (k + 1) = D.take k ++ [D[k]] := by rw [List.take_add_one, hc]; rfl
    have l1 := hl _ (List.getElem_mem hlt)
    have hlen : (D.take k).length = k := by rw [List.length_take]; omega
    generalize D[k] = d at hc hst l1
    have f1 := dcC_name hc
    have f2 := dcC_load hc
    have hpl := ddel_len (D.take k) e.name
    generalize D.take k = A at hst hcs hnn hf ht hlen hpl
    by_cases hne : d.1 = e.name
    · have hr : ddel (A ++ [d]) e.name = ddel A e.name := by rw [ddel_snoc, if_pos hne]
      cases th
      · refine Run ?_ trivial trivial trivial trivial trivial trivial trivial trivial trivial trivial trivial trivial
        refine ALoopQ_normal ⟨k + 1, n, cs, true, [_, _, _, _, _, _, _, _, _, _, _, _, _, _, _, _, _, _, _, _, _, _, _, _, _, _, _, _, _, _, _, _, _, _, _, _, _, _, _, _, _, _, _, _, _, _, _, _, _, _, _, _, _, _, _, _, _]⟩ rfl rfl ?hi1 ?hm1
        case hi1 => exact ⟨by omega, by rw [hst, hr, hcs], by rw [hst, hr, hnn], (fun h => by cases h), fun _ => ⟨d, by rw [hst]; simp, hne⟩⟩
        case hm1 => simp only; omega
      · refine Run ?_ trivial trivial trivial trivial trivial trivial trivial trivial trivial trivial trivial trivial
        refine ALoopQ_normal ⟨k + 1, n, cs, true, [_, _, _, _, _, _, _, _, _, _, _, _, _, _, _, _, _, _, _, _, _, _, _, _, _, _, _, _, _, _, _, _, _, _, _, _, _, _, _, _, _, _, _, _, _, _, _, _, _, _, _, _, _, _, _, _, _]⟩ rfl rfl ?hi1 ?hm1
        case hi1 => exact ⟨by omega, by rw [hst, hr, hcs], by rw [hst, hr, hnn], (fun h => by cases h), fun _ => ⟨d, by rw [hst]; simp, hne⟩⟩
        case hm1 => simp only; omega
    · have hr : ddel (A ++ [d]) e.name = ddel A e.name ++ [d] := by rw [ddel_snoc, if_neg hne]
      cases th
      · have hA := hf rfl
        refine Run ?_ trivial trivial trivial trivial trivial trivial trivial trivial trivial trivial trivial trivial
        refine ALoopQ_normal ⟨k + 1, n + 1, cs ++ [bsA d.1, bsA d.2], false, [_, _, _, _, _, _, _, _, _, _, _, _, _, _, _, _, _, _, _, _, _, _, _, _, _, _, _, _, _, _, _, _, _, _, _, _, _, _, _, _, _, _, _, _, _, _, _, _, _, _, _, _, _, _, _, _, _]⟩ rfl rfl ?hi1 ?hm1
        case hi1 => exact ⟨by omega, by rw [hst, hr, hcs, dcC_snoc], by rw [hst, hr, hnn, List.length_append]; rfl, (fun _ x hx => by rw [hst] at hx; rcases List.mem_append.1 hx with hx | hx; exact hA x hx; rw [List.mem_singleton.1 hx]; exact hne), (fun h => by cases h)⟩
        case hm1 => simp only; omega
      · obtain ⟨x, hx, hxn⟩ := ht rfl
        refine Run ?_ trivial trivial trivial trivial trivial trivial trivial trivial trivial trivial trivial trivial
        refine ALoopQ_normal ⟨k + 1, n + 1, cs ++ [bsA d.1, bsA d.2], true, [_, _, _, _, _, _, _, _, _, _, _, _, _, _, _, _, _, _, _, _, _, _, _, _, _, _, _, _, _, _, _, _, _, _, _, _, _, _, _, _, _, _, _, _, _, _, _, _, _, _, _, _, _, _, _, _, _]⟩ rfl rfl ?hi1 ?hm1
        case hi1 => exact ⟨by omega, by rw [hst, hr, hcs, dcC_snoc], by rw [hst, hr, hnn, List.length_append]; rfl, (fun h => by cases h), fun _ => ⟨x, by rw [hst]; exact List.mem_append.2 (.inl hx), hxn⟩⟩
        case hm1 => simp only; omega
  · obtain rfl : k = D.length := by omega
    rw [List.take_length] at hcs hnn hf ht
    subst hcs hnn
    cases th with
    | false =>
      have hno := (dget_none hD).2 (hf rfl)
      have hsame : ddel D e.name = D := List.filter_eq_self.2 fun x hx => by simpa using hf rfl x hx
      rw [if_pos hno]
      refine Run ?_ trivial trivial trivial trivial trivial trivial trivial trivial trivial trivial trivial trivial
      rw [hsame]
      simp only [aone, AV.wk, AV.wkL, dcC_wk]
    | true =>
      have hno : dget D e.name ≠ none := fun h => by
        obtain ⟨x, hx, hxn⟩ := ht rfl
        exact (dget_none hD).1 h x hx hxn
      rw [if_neg hno]
      refine Run ?_ trivial trivial trivial trivial trivial trivial trivial trivial trivial trivial trivial trivial
      simp only [aone, AV.wk, AV.wkL, dcC_wk]
end Go.Proofs.Ytnjkklkjlloedaa
