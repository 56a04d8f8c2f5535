/- server: push, by the abstract machine. -/
import Derived.Test.YtnjkklkjlloedaaSvB
import Derived.Test.YtnjkklkjlloedaaRunB
namespace Go.Proofs.Ytnjkklkjlloedaa
open Go.RowKit
set_option linter.unusedVariables false
set_option linter.unusedSimpArgs false
set_option maxRecDepth 10000
theorem push_sys (L : Lg) (h : LgOk L) (b c : Int) (hb : I64 b) (hc : I64 c) (ls : List (List UInt8)) (hls : LksOk ls) (hl8 : 1 ≤ ls.length ∧ ls.length ≤ 8) (s m : Int) : ASys Try.prog 49 [.ptr s 0, .agg [.int .i64 b, .int .i64 c], lkA ls] (.int .i64 (pushE L (b, c) ls)) [(s, [.map m], [.map m])] [(m, mpT L, mpT (pushL L (b, c) ls))] := by
  refine SvSys.mk (by simp only [AV.shutL, AV.shut, lkA_shut, bsAs_shut, Bool.and_self]) (by simp [AV.shut]) ?_
  refine ACalls_body Try.func49 rfl rfl ?_
  simp only [Try.ntmps49, List.length_cons, List.length_nil, Nat.reduceAdd, Nat.reduceSub, List.replicate_succ, List.replicate_zero, List.cons_append, List.nil_append]
  have hk := svK_fit hb hc
  have hl := h.links (b, c)
  have hm := h.most (b, c)
  have hm0 := h.most (b, c)
  rcases getL_cases L (b, c) with ⟨h1, h2, h5⟩ | ⟨l1, w, l2, h1, h2, h5⟩
  · have h3 := svA_out h1
    have e0 := cloneNil_val
    refine Run ?_ trivial trivial trivial trivial trivial trivial trivial trivial trivial trivial trivial trivial
    refine AWP_adopt 7 1 rfl (by simp only [setF]; rfl) ?_
    refine AWP_loopW [7, 9, 17, 18, 19, 20, 21, 22, 23, 24, 25, 26, 27, 28, 29, 30, 31] (N := Nat × Int × Nat × List AV × List AV) (fun ⟨k, nx, n, cs, js⟩ => [.sl (.tok 3 n 1) cs n, js.getD 0 .und, lkA ls, .int .i64 (ls.length : Int), .int .i64 (k : Int), js.getD 1 .und, js.getD 2 .und, js.getD 3 .und, js.getD 4 .und, js.getD 5 .und, js.getD 6 .und, js.getD 7 .und, js.getD 8 .und, js.getD 9 .und, js.getD 10 .und, js.getD 11 .und, js.getD 12 .und]) (fun ⟨k, nx, n, cs, js⟩ => ⟨[(2, [.int .i64 b, .int .i64 c]), (0, [.map 1])], [(3, n), (1, mpT L)], nx⟩) (fun ⟨k, nx, n, cs, js⟩ => 4 ≤ nx ∧ k ≤ ls.length ∧ cs = (addAll (getL L (b, c)) (ls.take k)).map bsA ∧ n = (addAll (getL L (b, c)) (ls.take k)).length) (fun ⟨k, nx, n, cs, js⟩ => ls.length - k) ⟨0, 4, 0, [], [_, _, _, _, _, _, _, _, _, _, _, _, _]⟩ rfl ?hs0 ?hi0 ?_
    rotate_left 2
    rintro ⟨k, nx, n, cs, js⟩ sl_ hs hi
    simp only [setsF, setF, Option.some.injEq] at hs
    subst hs
    case hs0 => exact ASub.refl _
    case hi0 => exact ⟨by omega, by omega, by simp [addAll, h2], by simp [addAll, h2]⟩
    obtain ⟨hnx, hk2, hcs, hn⟩ := hi
    by_cases hlt : k < ls.length
    · have hel : ls[k]? = some ls[k] := List.getElem?_eq_getElem hlt
      have hce : (ls.map bsA)[k]? = some (bsA ls[k]) := by rw [List.getElem?_map, hel]; rfl
      have hstep : addAll (getL L (b, c)) (ls.take (k + 1)) = addL (addAll (getL L (b, c)) (ls.take k)) ls[k] := by rw [List.take_add_one, hel]; exact addAll_snoc _ _ _
      have hle := addAll_le (ls.take k) (getL L (b, c))
      rw [List.length_take] at hle
      generalize addAll (getL L (b, c)) (ls.take k) = lg at hcs hn hstep hle
      subst hcs hn
      generalize ls[k] = x at hel hce hstep
      have e1 := contains_val lg x (by omega)
      by_cases hmem : x ∈ lg
      · rw [decide_eq_true hmem] at e1
        refine Run ?_ trivial trivial trivial trivial trivial trivial trivial trivial trivial trivial trivial trivial
        with_reducible apply R_call_view 1
        case hf => rfl
        case ha => rfl
        case hv => simp only [AV.vwL, AV.vw, alook, bsAs_shut, AV.shutL, AV.shut, shutL_bvA, Bool.and_self, if_true]; rfl
        case h => exact e1
        case hR => rfl
        case hc => exact (fun vs w => by kernel_rfl)
        case hs => exact aput_ok rfl
        refine Run ?_ trivial trivial trivial trivial trivial trivial trivial trivial trivial trivial trivial trivial
        refine ALoopW_normal ⟨k + 1, nx + 1, lg.length, lg.map bsA, [_, _, _, _, _, _, _, _, _, _, _, _, _]⟩ rfl ?hs1 ?hi1 ?hm1
        case hs1 => exact (ASub.refl _).drop (by simp only [alook]; rw [if_neg (by omega), if_neg (by omega)])
        case hi1 => exact ⟨by omega, by omega, by rw [hstep, addL, if_pos hmem], by rw [hstep, addL, if_pos hmem]⟩
        case hm1 => simp only; omega
      · rw [decide_eq_false hmem] at e1
        refine Run ?_ trivial trivial trivial trivial trivial trivial trivial trivial trivial trivial trivial trivial
        with_reducible apply R_call_view 1
        case hf => rfl
        case ha => rfl
        case hv => simp only [AV.vwL, AV.vw, alook, bsAs_shut, AV.shutL, AV.shut, shutL_bvA, Bool.and_self, if_true]; rfl
        case h => exact e1
        case hR => rfl
        case hc => exact (fun vs w => by kernel_rfl)
        case hs => exact aput_ok rfl
        refine Run ?_ trivial trivial trivial trivial trivial trivial trivial trivial trivial trivial trivial trivial
        refine ALoopW_normal ⟨k + 1, nx + 1, _, _, [_, _, _, _, _, _, _, _, _, _, _, _, _]⟩ rfl ?hs1 ?hi1 ?hm1
        case hs1 => exact (ASub.refl _).drop (by simp only [alook]; rw [if_neg (by omega), if_neg (by omega)])
        case hi1 => exact ⟨by omega, by omega, by rw [hstep, addL, if_neg hmem, List.map_append]; rfl, by rw [hstep, addL, if_neg hmem, List.length_append]; rfl⟩
        case hm1 => simp only; omega
    · obtain rfl : k = ls.length := by omega
      rw [List.take_length] at hcs hn
      unfold pushE pushL
      have hsh := lkA_shut (addAll (getL L (b, c)) ls)
      have hle := addAll_le ls (getL L (b, c))
      generalize addAll (getL L (b, c)) ls = lg at hcs hn hsh hle ⊢
      subst hcs hn
      by_cases h64 : 64 < lg.length
      · rw [if_pos h64, if_pos h64]
        refine Run ?_ trivial trivial trivial trivial trivial trivial trivial trivial trivial trivial trivial trivial
        exact ⟨rfl, by show (2 : Int) ≤ nx; omega, by simp [alook], by simp [alook]⟩
      · rw [if_neg h64, if_neg h64]
        rw [h5]
        refine Run ?_ trivial trivial trivial trivial trivial trivial trivial trivial trivial trivial trivial trivial
        with_reducible apply S_mapUpdate_new
        case hx => rfl
        case hy => rfl
        case hz => rfl
        case ho => rfl
        case hk => exact hk
        case hm => exact h3
        case hw => simp only [AV.wk, bsAs_wk]; rfl
        case hsh => exact hsh
        case ht => rfl
        case hs => rfl
        refine Run ?_ trivial trivial trivial trivial trivial trivial trivial trivial trivial trivial trivial trivial
        exact ⟨rfl, by show (2 : Int) ≤ nx; omega, by simp [alook], by simp only [alook]; simp [mpT, svA]⟩
  · have h3 : (AV.agg [.int .i64 b, .int .i64 c], lkA w) ∈ svA L := svA_in (k := (b, c)) (by rw [h1]; simp)
    rw [h2] at hl hm
    have e0 := cloneRows_tok w (by omega)
    refine Run ?_ trivial trivial trivial trivial trivial trivial trivial trivial trivial trivial trivial trivial
    have h6 : svA L = svA l1 ++ (.agg [.int .i64 b, .int .i64 c], lkA w) :: svA l2 := by rw [h1]; exact svA_split
    refine AWP_loopW [7, 9, 17, 18, 19, 20, 21, 22, 23, 24, 25, 26, 27, 28, 29, 30, 31] (N := Nat × Int × Nat × List AV × List AV) (fun ⟨k, nx, n, cs, js⟩ => [.sl (.tok 3 n 1) cs n, js.getD 0 .und, lkA ls, .int .i64 (ls.length : Int), .int .i64 (k : Int), js.getD 1 .und, js.getD 2 .und, js.getD 3 .und, js.getD 4 .und, js.getD 5 .und, js.getD 6 .und, js.getD 7 .und, js.getD 8 .und, js.getD 9 .und, js.getD 10 .und, js.getD 11 .und, js.getD 12 .und]) (fun ⟨k, nx, n, cs, js⟩ => ⟨[(2, [.int .i64 b, .int .i64 c]), (0, [.map 1])], [(3, n), (1, mpT L)], nx⟩) (fun ⟨k, nx, n, cs, js⟩ => 4 ≤ nx ∧ k ≤ ls.length ∧ cs = (addAll (getL L (b, c)) (ls.take k)).map bsA ∧ n = (addAll (getL L (b, c)) (ls.take k)).length) (fun ⟨k, nx, n, cs, js⟩ => ls.length - k) ⟨0, 4, w.length, w.map bsA, [_, _, _, _, _, _, _, _, _, _, _, _, _]⟩ rfl ?hs0 ?hi0 ?_
    rotate_left 2
    rintro ⟨k, nx, n, cs, js⟩ sl_ hs hi
    simp only [setsF, setF, Option.some.injEq] at hs
    subst hs
    case hs0 => exact ASub.refl _
    case hi0 => exact ⟨by omega, by omega, by simp [addAll, h2], by simp [addAll, h2]⟩
    obtain ⟨hnx, hk2, hcs, hn⟩ := hi
    by_cases hlt : k < ls.length
    · have hel : ls[k]? = some ls[k] := List.getElem?_eq_getElem hlt
      have hce : (ls.map bsA)[k]? = some (bsA ls[k]) := by rw [List.getElem?_map, hel]; rfl
      have hstep : addAll (getL L (b, c)) (ls.take (k + 1)) = addL (addAll (getL L (b, c)) (ls.take k)) ls[k] := by rw [List.take_add_one, hel]; exact addAll_snoc _ _ _
      have hle := addAll_le (ls.take k) (getL L (b, c))
      rw [List.length_take] at hle
      generalize addAll (getL L (b, c)) (ls.take k) = lg at hcs hn hstep hle
      subst hcs hn
      generalize ls[k] = x at hel hce hstep
      have e1 := contains_val lg x (by omega)
      by_cases hmem : x ∈ lg
      · rw [decide_eq_true hmem] at e1
        refine Run ?_ trivial trivial trivial trivial trivial trivial trivial trivial trivial trivial trivial trivial
        with_reducible apply R_call_view 1
        case hf => rfl
        case ha => rfl
        case hv => simp only [AV.vwL, AV.vw, alook, bsAs_shut, AV.shutL, AV.shut, shutL_bvA, Bool.and_self, if_true]; rfl
        case h => exact e1
        case hR => rfl
        case hc => exact (fun vs w => by kernel_rfl)
        case hs => exact aput_ok rfl
        refine Run ?_ trivial trivial trivial trivial trivial trivial trivial trivial trivial trivial trivial trivial
        refine ALoopW_normal ⟨k + 1, nx + 1, lg.length, lg.map bsA, [_, _, _, _, _, _, _, _, _, _, _, _, _]⟩ rfl ?hs1 ?hi1 ?hm1
        case hs1 => exact (ASub.refl _).drop (by simp only [alook]; rw [if_neg (by omega), if_neg (by omega)])
        case hi1 => exact ⟨by omega, by omega, by rw [hstep, addL, if_pos hmem], by rw [hstep, addL, if_pos hmem]⟩
        case hm1 => simp only; omega
      · rw [decide_eq_false hmem] at e1
        refine Run ?_ trivial trivial trivial trivial trivial trivial trivial trivial trivial trivial trivial trivial
        with_reducible apply R_call_view 1
        case hf => rfl
        case ha => rfl
        case hv => simp only [AV.vwL, AV.vw, alook, bsAs_shut, AV.shutL, AV.shut, shutL_bvA, Bool.and_self, if_true]; rfl
        case h => exact e1
        case hR => rfl
        case hc => exact (fun vs w => by kernel_rfl)
        case hs => exact aput_ok rfl
        refine Run ?_ trivial trivial trivial trivial trivial trivial trivial trivial trivial trivial trivial trivial
        refine ALoopW_normal ⟨k + 1, nx + 1, _, _, [_, _, _, _, _, _, _, _, _, _, _, _, _]⟩ rfl ?hs1 ?hi1 ?hm1
        case hs1 => exact (ASub.refl _).drop (by simp only [alook]; rw [if_neg (by omega), if_neg (by omega)])
        case hi1 => exact ⟨by omega, by omega, by rw [hstep, addL, if_neg hmem, List.map_append]; rfl, by rw [hstep, addL, if_neg hmem, List.length_append]; rfl⟩
        case hm1 => simp only; omega
    · obtain rfl : k = ls.length := by omega
      rw [List.take_length] at hcs hn
      unfold pushE pushL
      have hsh := lkA_shut (addAll (getL L (b, c)) ls)
      have hle := addAll_le ls (getL L (b, c))
      generalize addAll (getL L (b, c)) ls = lg at hcs hn hsh hle ⊢
      subst hcs hn
      by_cases h64 : 64 < lg.length
      · rw [if_pos h64, if_pos h64]
        refine Run ?_ trivial trivial trivial trivial trivial trivial trivial trivial trivial trivial trivial trivial
        exact ⟨rfl, by show (2 : Int) ≤ nx; omega, by simp [alook], by simp [alook]⟩
      · rw [if_neg h64, if_neg h64]
        rw [h5]
        refine Run ?_ trivial trivial trivial trivial trivial trivial trivial trivial trivial trivial trivial trivial
        with_reducible apply S_mapUpdate_old
        case hx => rfl
        case hy => rfl
        case hz => rfl
        case ho => rfl
        case hk => exact hk
        case hm => exact h6
        case hw => simp only [AV.wk, bsAs_wk]; rfl
        case hsh => exact hsh
        case ht => rfl
        case hs => rfl
        refine Run ?_ trivial trivial trivial trivial trivial trivial trivial trivial trivial trivial trivial trivial
        exact ⟨rfl, by show (2 : Int) ≤ nx; omega, by simp [alook], by simp only [alook]; simp [mpT, svA]⟩
end Go.Proofs.Ytnjkklkjlloedaa
