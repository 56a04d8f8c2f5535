/- server: Fork walked. -/
import Derived.Test.YtnjkklkjlloedaaSvK
namespace Go.Proofs.Ytnjkklkjlloedaa
open Go.RowKit
set_option linter.unusedVariables false
set_option linter.unusedSimpArgs false
set_option maxRecDepth 10000
theorem map_erase {α β : Type} (f : α → β) : ∀ (l : List α) (i : Nat), (l.eraseIdx i).map f = (l.map f).eraseIdx i
  | [], i => by simp
  | a :: r, 0 => rfl
  | a :: r, i + 1 => by simp only [List.eraseIdx_cons_succ, List.map_cons, map_erase f r i]
theorem fork_neg (L : Lg) (n : Int) (hn : n < 0) (s m : Int) : ASys Try.prog 25 [.ptr s 0, .int .i64 n] (.int .i64 12) [(s, [.map m], [.map m])] [(m, mpT L, mpT L)] := by
  refine SvSys.mk (by simp [AV.shutL, AV.shut]) (by simp [AV.shut]) ?_
  refine ACalls_body Try.func25 rfl rfl ?_
  simp only [Try.ntmps25, List.length_cons, List.length_nil, Nat.reduceAdd, Nat.reduceSub, List.replicate_succ, List.replicate_zero, List.cons_append, List.nil_append]
  refine Run ?_ trivial trivial trivial trivial trivial trivial trivial trivial trivial trivial trivial trivial
  exact ⟨rfl, by show (2 : Int) ≤ 2; omega, rfl, rfl⟩
theorem fork_sys (L : Lg) (h : LgOk L) (n : Nat) (hk : ∀ e ∈ L, I64 e.1.1 ∧ I64 e.1.2) (hv : ∀ e ∈ L, e.2.length ≤ 64) (s m : Int) : ASys Try.prog 25 [.ptr s 0, .int .i64 (n : Int)] (.int .i64 0) [(s, [.map m], [.map m])] [(m, mpT L, mpT (forkL L n))] := by
  refine SvSys.mk (by simp [AV.shutL, AV.shut]) (by simp [AV.shut]) ?_
  refine ACalls_body Try.func25 rfl rfl ?_
  simp only [Try.ntmps25, List.length_cons, List.length_nil, Nat.reduceAdd, Nat.reduceSub, List.replicate_succ, List.replicate_zero, List.cons_append, List.nil_append]
  have hn0 : ¬ (n : Int) < 0 := by omega
  refine Run ?_ trivial trivial trivial trivial trivial trivial trivial trivial trivial trivial trivial trivial
  refine AOPS_st (id := 1) rfl rfl ?_
  intro kvs0 mb bs c hP hnd hl hbn hbc
  simp only [aset, if_true]
  obtain ⟨E, hEL, rfl, rfl⟩ := svA_inv hP hl
  clear hP hl
  with_reducible apply S_range (id := 1)
  case hx => rfl
  case ho => rfl
  case hs => exact aput_ok rfl
  case hn => rfl
  refine Run ?_ trivial trivial trivial trivial trivial trivial trivial trivial trivial trivial trivial trivial
  refine AWP_loopW [5, 15, 16, 17, 18, 19, 20, 21, 22, 23, 24, 25, 26] (N := List Nat × List LE × Int × List AV) (fun ⟨seen, F, nx, js⟩ => [js.getD 0 .und, js.getD 1 .und, js.getD 2 .und, js.getD 3 .und, js.getD 4 .und, js.getD 5 .und, js.getD 6 .und, js.getD 7 .und, js.getD 8 .und, js.getD 9 .und, js.getD 10 .und, js.getD 11 .und, js.getD 12 .und]) (fun ⟨seen, F, nx, js⟩ => ⟨[(0, [.map 1])], [(2, .mp (.itr mb c seen c) []), (1, .mp (.st svSh mb (F.map Prod.snd) c) (svA (F.map Prod.fst)))], nx⟩) (fun ⟨seen, F, nx, js⟩ => 3 ≤ nx ∧ F = fk1 E seen) (fun ⟨seen, F, nx, js⟩ => lft c seen) ⟨[], E, 3, [_, _, _, _, _, _, _, _, _, _, _, _, _]⟩ rfl ?hs0 ?hi0 ?_
  rotate_left 2
  rintro ⟨seen, F, nx, js⟩ sl_ hs hi
  simp only [setsF, setF, Option.some.injEq] at hs
  subst hs
  case hs0 => exact ASub.refl _
  case hi0 => exact ⟨by omega, (List.filter_eq_self.2 fun x _ => by simp [List.contains_eq_mem]).symm⟩
  obtain ⟨hnx, hF⟩ := hi
  refine Run ?_ trivial trivial trivial trivial trivial trivial trivial trivial trivial trivial trivial trivial
  with_reducible apply S_next (id := 1)
  case hx => rfl
  case hm => rfl
  case ho => rfl
  case hg =>
    cases hFc : F.map Prod.snd with
    | nil => exact .inr (.inl rfl)
    | cons b r =>
      refine .inr (.inr ⟨b, List.mem_cons_self .., hbc b ?_⟩)
      have : b ∈ F.map Prod.snd := by rw [hFc]; exact List.mem_cons_self ..
      rw [hF] at this
      exact (List.filter_sublist.map _).subset this
  case h0 =>
    intro hd
    simp only [aput]
    refine Run ?_ trivial trivial trivial trivial trivial trivial trivial trivial trivial trivial trivial trivial
    with_reducible apply S_range (id := 1)
    case hx => rfl
    case ho => rfl
    case hs => exact aput_ok rfl
    case hn => rfl
    have hFA : F.map Prod.fst = forkA (E.map Prod.fst) := by
      rw [hF]
      refine fk1_all fun b hb => ?_
      rw [← hF] at hb
      exact hd b hb (hbc b (by rw [hF] at hb; exact (List.filter_sublist.map _).subset hb))
    have hFb : ∀ e ∈ F, e.2 < c := fun e he => hbc _ (List.mem_map.2 ⟨e, by rw [hF] at he; exact (List.mem_filter.1 he).1, rfl⟩)
    have hFn : (F.map Prod.snd).Nodup := by rw [hF]; exact fk_nodup hbn
    have hFm : ∀ e ∈ F, e.1 ∈ L ∧ e.1.1.1 ≠ 1 := fun e he => by
      have h1 : e.1 ∈ forkA (E.map Prod.fst) := by rw [← hFA]; exact List.mem_map.2 ⟨e, he, rfl⟩
      obtain ⟨h2, h3⟩ := forkA_mem h1
      exact ⟨hEL.mem_iff.1 h2, h3⟩
    have hFk : ((F.map Prod.fst).map Prod.fst).Nodup := by
      rw [hFA]
      exact (List.filter_sublist.map _).nodup (svA_nodup hnd)
    have hFl : ∀ {sn : List Nat} {A : Lg}, A.Perm ((fk2 F sn).map fun e => forkG n e.1) → A.length ≤ F.length := fun hA => by
      rw [hA.length_eq, List.length_map]
      exact List.length_filter_le _ _
    clear hd hF hbn hbc hnd
    refine Run ?_ trivial trivial trivial trivial trivial trivial trivial trivial trivial trivial trivial trivial
    refine AWP_loopW [6, 7, 32, 33, 34, 35, 36, 37, 38, 39, 40, 41, 42, 43, 44, 45, 46, 47, 48, 49, 50, 51, 52, 53] (N := List Nat × Lg × Nat × Int × List AV) (fun ⟨sn, A, last, ny, js⟩ => [js.getD 0 .und, js.getD 1 .und, js.getD 2 .und, js.getD 3 .und, js.getD 4 .und, js.getD 5 .und, js.getD 6 .und, js.getD 7 .und, js.getD 8 .und, js.getD 9 .und, js.getD 10 .und, js.getD 11 .und, js.getD 12 .und, js.getD 13 .und, js.getD 14 .und, js.getD 15 .und, js.getD 16 .und, js.getD 17 .und, js.getD 18 .und, js.getD 19 .und, js.getD 20 .und, js.getD 21 .und, js.getD 22 .und, js.getD 23 .und]) (fun ⟨sn, A, last, ny, js⟩ => ⟨[(0, [.map 1])], [(nx, .mp (.itr mb c sn last) []), (2, .mp (.itr mb c seen c) []), (1, .mp (.st svSh mb (F.map Prod.snd ++ (List.range A.length).map (c + ·)) (c + A.length)) (svA (F.map Prod.fst ++ A)))], ny⟩) (fun ⟨sn, A, last, ny, js⟩ => nx + 1 ≤ ny ∧ c ≤ last ∧ A.Perm ((fk2 F sn).map fun e => forkG n e.1)) (fun ⟨sn, A, last, ny, js⟩ => lft (c + F.length) sn) ⟨[], [], c, nx + 1, [_, _, _, _, _, _, _, _, _, _, _, _, _, _, _, _, _, _, _, _, _, _, _, _]⟩ rfl ?hs0 ?hi0 ?_
    rotate_left 2
    rintro ⟨sn, A, last, ny, js⟩ sl_ hs hi
    simp only [setsF, setF, Option.some.injEq] at hs
    subst hs
    case hs0 =>
      simp only [List.length_nil, List.range_zero, List.map_nil, List.append_nil]
      exact ASub.refl _
    case hi0 => exact ⟨by omega, by omega, by rw [show fk2 F [] = [] from List.filter_eq_nil_iff.2 fun x _ => by simp [List.contains_eq_mem]]; exact List.Perm.refl _⟩
    obtain ⟨hny, hlast, hA⟩ := hi
    have hAl := hFl hA
    refine Run ?_ trivial trivial trivial trivial trivial trivial trivial trivial trivial trivial trivial trivial
    with_reducible apply S_next (id := 1)
    case hx => rfl
    case hm => simp only [alook]; rw [if_neg (by omega)]; rfl
    case ho => simp only [alook, if_true]; rfl
    case hg =>
      cases hFc : F with
      | nil =>
        subst hFc
        have : A = [] := List.eq_nil_of_length_eq_zero (by simpa using hAl)
        subst this
        exact .inr (.inl rfl)
      | cons f r =>
        refine .inr (.inr ⟨f.2, by simp, ?_⟩)
        have := hFb f (by rw [hFc]; exact List.mem_cons_self ..)
        omega
    case h0 =>
      intro hd2
      simp only [aput]
      refine AOPS_unst (id := 1) (kvs' := svA (forkL L n)) rfl (by simp only [alook]; rw [if_neg (by omega)]; rfl) (svA_perm ?_) (by simp only [asetF]; rw [if_neg (by omega)]; rfl) ?_
      · refine forkL_perm hEL (List.Perm.of_eq hFA) (hA.trans (List.Perm.of_eq ?_))
        have : fk2 F sn = F.filter fun e => e.1.1.1 == 0 := List.filter_congr fun x hx => by
          have h1 := hd2 x.2 (List.mem_append.2 (.inl (List.mem_map.2 ⟨x, hx, rfl⟩))) (hFb x hx)
          simp [List.contains_eq_mem, h1]
        rw [this, List.filter_map, List.map_map]
        rfl
      refine Run ?_ trivial trivial trivial trivial trivial trivial trivial trivial trivial trivial trivial trivial
      exact ⟨rfl, by show (2 : Int) ≤ ny; omega, by simp only [alook, if_true], by simp only [alook]; rw [if_neg (by omega), if_neg (by decide), if_true]⟩
    case h1 =>
      intro i b ka va g1 g2 g3
      obtain ⟨e, he1, rfl, rfl⟩ := svA_get g1
      simp only [aput, aset, if_true]
      refine Run ?_ trivial trivial trivial trivial trivial trivial trivial trivial trivial trivial trivial trivial
      with_reducible apply S_entry (id := 1) (i := i)
      case hx => rfl
      case hm => simp only [alook]; rw [if_neg (by omega)]; rfl
      case ho => simp only [alook, if_true]; rfl
      case hk => exact g1
      case hbi => exact g2
      case hs => exact aput_ok rfl
      have hbN : b < c + A.length := by
        have := List.mem_of_getElem? g2
        rcases List.mem_append.1 this with h1 | h1
        · obtain ⟨x, hx, rfl⟩ := List.mem_map.1 h1
          have := hFb x hx
          omega
        · obtain ⟨x, hx, rfl⟩ := List.mem_map.1 h1
          have := List.mem_range.1 hx
          omega
      have hpair : ∀ x ∈ F, x.2 = b → x.1 = e := by
        intro x hx hxb
        obtain ⟨j, hj⟩ := List.getElem?_of_mem hx
        have hjl := (List.getElem?_eq_some_iff.1 hj).1
        by_cases hiF : i < F.length
        · rw [List.getElem?_append_left (by rw [List.length_map]; exact hiF)] at g2 he1
          have := zip_get he1 g2
          have := nd_inj hFn hx (List.mem_of_getElem? this) hxb
          rw [this]
        · rw [List.getElem?_append_right (by rw [List.length_map]; omega)] at g2
          obtain ⟨y, hy, hyb⟩ := List.mem_map.1 (List.mem_of_getElem? g2)
          have := hFb x hx
          omega
      by_cases hb0 : e.1.1 = 0
      · have hiF : i < F.length := by
          refine Nat.lt_of_not_le fun hle => ?_
          rw [List.getElem?_append_right (by rw [List.length_map]; omega)] at he1
          have := hA.mem_iff.1 (List.mem_of_getElem? he1)
          obtain ⟨x, hx, hxe⟩ := List.mem_map.1 this
          rw [← hxe] at hb0
          simp [forkG] at hb0
        rw [List.getElem?_append_left (by rw [List.length_map]; exact hiF)] at he1
        rw [List.getElem?_append_left (by rw [List.length_map]; exact hiF)] at g2
        have hFe := zip_get he1 g2
        have hem := List.mem_of_getElem? hFe
        obtain ⟨heL, _⟩ := hFm _ hem
        have hke := hk e heL
        have hve := hv e heL
        have hnew : ∀ p ∈ svA (F.map Prod.fst ++ A), p.1 ≠ AV.agg [.int .i64 1, .int .i64 e.1.2] := by
          refine svA_out fun a ha hae => ?_
          rcases List.mem_append.1 ha with h1 | h1
          · obtain ⟨x, hx, rfl⟩ := List.mem_map.1 h1
            exact (hFm x hx).2 (by rw [hae])
          · obtain ⟨x, hx, rfl⟩ := List.mem_map.1 (hA.mem_iff.1 h1)
            obtain ⟨hxF, hx2⟩ := List.mem_filter.1 hx
            simp only [Bool.and_eq_true, List.contains_eq_mem, decide_eq_true_eq, beq_iff_eq] at hx2
            simp only [forkG, Prod.mk.injEq, true_and] at hae
            have hxe : x.1.1 = e.1 := Prod.ext (by rw [hx2.2, hb0]) hae
            have := nd_inj (f := fun z : LE => z.1.1) (by rw [List.map_map] at hFk; exact hFk) hxF hem hxe
            rw [this] at hx2
            exact g3 hx2.1
        have hcut : e.2.take (min n e.2.length) = e.2.take n := by
          by_cases hle : n ≤ e.2.length
          · rw [Nat.min_eq_left hle]
          · rw [Nat.min_eq_right (by omega), List.take_length, List.take_of_length_le (by omega)]
        have hml : (e.2.take n).length ≤ 64 := by rw [List.length_take]; omega
        have ev := cloneRowsV_val (e.2.take n) (by omega)
        refine Run ?_ trivial trivial trivial trivial trivial trivial trivial trivial trivial trivial trivial trivial
        with_reducible apply TS_sliceRows_h (ls := e.2) (n := min n e.2.length)
        case hx => rfl
        case hz => rfl
        case hN => rfl
        case hh => omega
        case hlm => omega
        case hs => exact aput_ok rfl
        rw [hcut]
        refine Run ?_ trivial trivial trivial trivial trivial trivial trivial trivial trivial trivial trivial trivial
        with_reducible apply S_mapUpdate_st_new
        case hx => rfl
        case hy => rfl
        case hz => rfl
        case ho => simp only [alook]; rw [if_neg (by omega)]; rfl
        case hk => exact svK_fit ⟨by omega, by omega⟩ hke.2
        case hm => exact hnew
        case hw => simp only [lkA, AV.wk, bsAs_wk]; rfl
        case hsh => exact lkA_shut _
        case ht => simp only [asetF]; rw [if_neg (by omega)]; rfl
        case hs => rfl
        have q1 : svA (F.map Prod.fst ++ A) ++ [(.agg [.int .i64 1, .int .i64 e.1.2], lkA (e.2.take n))] = svA (F.map Prod.fst ++ (A ++ [forkG n e])) := by simp [svA, forkG]
        have q2 : (F.map Prod.snd ++ (List.range A.length).map (c + ·)) ++ [c + A.length] = F.map Prod.snd ++ (List.range (A ++ [forkG n e]).length).map (c + ·) := by
          rw [List.length_append, List.length_singleton, List.range_succ, List.map_append, List.append_assoc]
          rfl
        have q3 : c + A.length + 1 = c + (A ++ [forkG n e]).length := by rw [List.length_append, List.length_singleton]; rfl
        simp only [lkA] at q1 ⊢
        rw [q1, q2, q3]
        refine Run ?_ trivial trivial trivial trivial trivial trivial trivial trivial trivial trivial trivial trivial
        refine ALoopW_normal ⟨sn ++ [b], A ++ [forkG n e], c + A.length, ny + 1, [_, _, _, _, _, _, _, _, _, _, _, _, _, _, _, _, _, _, _, _, _, _, _, _]⟩ rfl ?hs1 ?hi1 ?hm1
        case hs1 => exact (ASub.refl _).drop (by simp only [alook]; rw [if_neg (by omega)])
        case hi1 =>
          refine ⟨by show nx + 1 ≤ ny + 1; omega, by show c ≤ c + A.length; omega, ?_⟩
          have q4 : (fk2 F (sn ++ [b])).Perm ((e, b) :: fk2 F sn) := fk2_more hFn hem g3 hb0
          have q5 : ((fk2 F (sn ++ [b])).map fun e : LE => forkG n e.1).Perm (forkG n e :: (fk2 F sn).map fun e => forkG n e.1) := q4.map _
          exact ((List.perm_append_singleton _ _).trans (hA.cons _)).trans q5.symm
        case hm1 => exact lft_lt (by show b < c + F.length; omega) g3
      · refine Run ?_ trivial trivial trivial trivial trivial trivial trivial trivial trivial trivial trivial trivial
        refine ALoopW_normal ⟨sn ++ [b], A, c + A.length, ny + 1, [_, _, _, _, _, _, _, _, _, _, _, _, _, _, _, _, _, _, _, _, _, _, _, _]⟩ rfl ?hs1 ?hi1 ?hm1
        case hs1 => exact (ASub.refl _).drop (by simp only [alook]; rw [if_neg (by omega)])
        case hi1 =>
          refine ⟨by show nx + 1 ≤ ny + 1; omega, by show c ≤ c + A.length; omega, ?_⟩
          rw [fk2_stay fun x hx hxb => by rw [hpair x hx hxb]; exact hb0]
          exact hA
        case hm1 => exact lft_lt (by show b < c + F.length; omega) g3
  case h1 =>
    intro i b ka va g1 g2 g3
    obtain ⟨e, he1, rfl, rfl⟩ := svA_get g1
    have hFe := zip_get he1 g2
    have hbE : b ∈ E.map Prod.snd := by
      have := List.mem_of_getElem? g2
      rw [hF] at this
      exact (List.filter_sublist.map _).subset this
    have heL : e ∈ L := by
      have := List.mem_of_getElem? he1
      rw [hF] at this
      exact hEL.mem_iff.1 ((List.filter_sublist.map _).subset this)
    have hke := hk e heL
    simp only [aput, aset, if_true]
    refine Run ?_ trivial trivial trivial trivial trivial trivial trivial trivial trivial trivial trivial trivial
    with_reducible apply S_entry (id := 1) (i := i)
    case hx => rfl
    case hm => rfl
    case ho => rfl
    case hk => exact g1
    case hbi => exact g2
    case hs => exact aput_ok rfl
    by_cases hb1 : e.1.1 = 1
    · refine Run ?_ trivial trivial trivial trivial trivial trivial trivial trivial trivial trivial trivial trivial
      with_reducible apply S_delete_st (j := i)
      case hx => rfl
      case hy => rfl
      case ho => rfl
      case hk => exact svK_fit hke.1 hke.2
      case hm => exact g1
      case ht => rfl
      case hs => rfl
      have q1 : (svA (F.map Prod.fst)).eraseIdx i = svA ((F.eraseIdx i).map Prod.fst) := by rw [svA, svA, map_erase, map_erase]
      have q2 : (F.map Prod.snd).eraseIdx i = (F.eraseIdx i).map Prod.snd := (map_erase ..).symm
      rw [q1, q2]
      refine Run ?_ trivial trivial trivial trivial trivial trivial trivial trivial trivial trivial trivial trivial
      refine ALoopW_normal ⟨seen ++ [b], F.eraseIdx i, nx + 1, [_, _, _, _, _, _, _, _, _, _, _, _, _]⟩ rfl ?hs2 ?hi2 ?hm2
      case hs2 => exact (ASub.refl _).drop (by simp only [alook]; rw [if_neg (by omega)])
      case hi2 =>
        refine ⟨by show 3 ≤ nx + 1; omega, ?_⟩
        show F.eraseIdx i = fk1 E (seen ++ [b])
        rw [fk1_del (b := b) hbn (by rw [← hF]; exact hFe) rfl hb1, ← hF]
      case hm2 => exact lft_lt (hbc b hbE) g3
    · refine Run ?_ trivial trivial trivial trivial trivial trivial trivial trivial trivial trivial trivial trivial
      refine ALoopW_normal ⟨seen ++ [b], F, nx + 1, [_, _, _, _, _, _, _, _, _, _, _, _, _]⟩ rfl ?hs2 ?hi2 ?hm2
      case hs2 => exact (ASub.refl _).drop (by simp only [alook]; rw [if_neg (by omega)])
      case hi2 =>
        refine ⟨by show 3 ≤ nx + 1; omega, ?_⟩
        show F = fk1 E (seen ++ [b])
        rw [fk1_stay (b := b) hbn (by rw [← hF]; exact hFe) rfl hb1]
        exact hF
      case hm2 => exact lft_lt (hbc b hbE) g3
end Go.Proofs.Ytnjkklkjlloedaa
