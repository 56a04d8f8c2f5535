/- Law 11: DocsOrder. -/
import Derived.Test.YtnjkklkjlloedaaDcF
import Derived.Test.YtnjkklkjlloedaaLkS
namespace Go.Proofs.Ytnjkklkjlloedaa
open Go.RowKit
set_option linter.unusedVariables false
set_option linter.unusedSimpArgs false
set_option maxRecDepth 10000
def seenA (L : List Nm) : List (AV × AV) := L.map fun n => (.str n, .bool true)
theorem seenA_out {L : List Nm} {x : Nm} (h : x ∉ L) : ∀ p ∈ seenA L, p.1 ≠ AV.str x := by
  intro p hp he
  obtain ⟨n, hn, rfl⟩ := List.mem_map.1 hp
  simp only [AV.str.injEq] at he
  exact h (he ▸ hn)
theorem str_add {x : Nm} (h : x.length ≤ 64) : astr .add x [118] = some (.str (x ++ [118])) := by
  simp only [astr]
  rw [if_pos (by simp only [List.length_singleton]; omega)]
def fV (n : Nm) : Nm := n ++ [118]
def turned (L : List Nm) (t : Nat) : List Nm := (List.range L.length).map fun i => L.getD ((i + t % L.length) % L.length) []
set_option maxHeartbeats 20000000 in
theorem DocsOrder_law (ns : List Nm) (z : Int) (hm : ns.length ≤ 9223372036854775807) (hl : ∀ x ∈ ns, x.length ≤ 9223372036854775807) : ACalls Try.prog 11 [lkA ns, .int .i64 z] ⟨[], [], 0⟩ (fun rv _ => rv = .bool true) := by
  refine ACalls_body Try.func11 rfl rfl ?_
  simp only [Try.ntmps11, List.length_cons, List.length_nil, Nat.reduceAdd, Nat.reduceSub, List.replicate_succ, List.replicate_zero, List.cons_append, List.nil_append]
  have ha := anchor11_val
  by_cases b1 : 20 < ns.length
  · refine RunB ?_ trivial trivial trivial trivial trivial trivial trivial trivial trivial trivial trivial trivial
    rfl
  by_cases b2 : z < 0
  · refine RunB ?_ trivial trivial trivial trivial trivial trivial trivial trivial trivial trivial trivial trivial
    rfl
  obtain ⟨t, rfl⟩ := Int.eq_ofNat_of_zero_le (Int.not_lt.1 b2)
  refine RunB ?_ trivial trivial (⟨Try.func29, rfl, rfl⟩ : Inl Try.prog 29 _ _ _) trivial trivial trivial trivial trivial trivial trivial trivial trivial
  refine AWP_adopt 8 1 rfl (by simp only [setF]; rfl) ?_
  refine AWP_loopS [4, 8, 10, 33, 34, 35, 36, 37, 38, 39, 40, 41, 42, 43, 44, 45, 46, 47, 48, 49, 50, 51, 52, 53, 54, 55, 56, 57] (N := Nat × Nat × List AV × List Nm × List AV) (fun ⟨k, n, cs, L, js⟩ => [js.getD 0 .und, .sl (.tok 5 n 1) cs n, js.getD 1 .und, .int .i64 (k : Int), js.getD 2 .und, js.getD 3 .und, js.getD 4 .und, js.getD 5 .und, js.getD 6 .und, js.getD 7 .und, js.getD 8 .und, js.getD 9 .und, js.getD 10 .und, js.getD 11 .und, js.getD 12 .und, js.getD 13 .und, js.getD 14 .und, js.getD 15 .und, js.getD 16 .und, js.getD 17 .und, js.getD 18 .und, js.getD 19 .und, js.getD 20 .und, js.getD 21 .und, js.getD 22 .und, js.getD 23 .und, js.getD 24 .und, js.getD 25 .und]) (fun ⟨k, n, cs, L, js⟩ => ⟨[(3, [.map 2]), (1, [.map 0])], [(5, n), (4, .mp (.one .str) (seenA L)), (2, .mp (.one .str) []), (0, .mp (.one .str) [])], 6⟩) (fun ⟨k, n, cs, L, js⟩ => k ≤ ns.length ∧ cs = L.map bsA ∧ n = L.length ∧ L.Nodup ∧ (∀ x ∈ L, 1 ≤ x.length ∧ x.length ≤ 64) ∧ L.length ≤ k) (fun ⟨k, n, cs, L, js⟩ => ns.length - k) ⟨0, 0, [], [], [_, _, _, _, _, _, _, _, _, _, _, _, _, _, _, _, _, _, _, _, _, _, _, _, _, _]⟩ rfl rfl ?hi0 ?_
  rotate_left
  rintro ⟨k, n, cs, L, js⟩ sl_ hs hi
  simp only [setsF, setF, Option.some.injEq] at hs
  subst hs
  case hi0 => exact ⟨by omega, rfl, rfl, List.nodup_nil, (fun x hx => by cases hx), by simp⟩
  obtain ⟨hk, hcs, hn, hnd, hL, hLk⟩ := hi
  by_cases hlt : k < ns.length
  · have hel : ns[k]? = some ns[k] := List.getElem?_eq_getElem hlt
    have hxl := hl _ (List.getElem_mem hlt)
    generalize ns[k] = x at hel hxl
    have hc : (ns.map bsA)[k]? = some (bsA x) := by rw [List.getElem?_map, hel]; rfl
    by_cases b3 : x.length < 1
    · refine RunB ?_ trivial trivial trivial trivial trivial trivial trivial trivial trivial trivial trivial trivial
      rfl
    by_cases b4 : 64 < x.length
    · refine RunB ?_ trivial trivial trivial trivial trivial trivial trivial trivial trivial trivial trivial trivial
      rfl
    by_cases hin : x ∈ L
    · obtain ⟨l1, l2, hspl⟩ := List.append_of_mem hin
      have c5 : seenA L = seenA l1 ++ (.str x, .bool true) :: seenA l2 := by rw [hspl]; simp [seenA]
      have c6 : (AV.str x, AV.bool true) ∈ seenA L := by rw [c5]; simp
      refine RunB ?_ trivial trivial trivial trivial trivial trivial trivial trivial trivial trivial trivial trivial
      simp only [AV.wk]
      rw [← c5]
      refine ALoopQ_normal ⟨k + 1, n, cs, L, [_, _, _, _, _, _, _, _, _, _, _, _, _, _, _, _, _, _, _, _, _, _, _, _, _, _]⟩ rfl rfl ?hi1 ?hm1
      case hi1 => exact ⟨by omega, hcs, hn, hnd, hL, by show L.length ≤ k + 1; omega⟩
      case hm1 => simp only; omega
    · have c5 : ∀ p ∈ seenA L, p.1 ≠ AV.str x := seenA_out hin
      have c6 : seenA L ++ [(.str x, .bool true)] = seenA (L ++ [x]) := by simp [seenA]
      refine RunB ?_ trivial trivial trivial trivial trivial trivial trivial trivial trivial trivial trivial trivial
      simp only [AV.wk]
      rw [c6]
      refine ALoopQ_normal ⟨k + 1, n + 1, cs ++ [bsA x], L ++ [x], [_, _, _, _, _, _, _, _, _, _, _, _, _, _, _, _, _, _, _, _, _, _, _, _, _, _]⟩ rfl rfl ?hi1 ?hm1
      case hi1 =>
        refine ⟨by omega, by rw [hcs, List.map_append]; rfl, by rw [hn, List.length_append]; rfl, ?_, ?_, ?_⟩
        · rw [List.nodup_append]
          exact ⟨hnd, by simp, fun a ha b hb => by rw [List.mem_singleton.1 hb]; rintro rfl; exact hin ha⟩
        · intro y hy
          rcases List.mem_append.1 hy with hy | hy
          · exact hL y hy
          · rw [List.mem_singleton.1 hy]; omega
        · rw [List.length_append]; show L.length + 1 ≤ k + 1; omega
      case hm1 => simp only; omega
  obtain rfl : k = ns.length := by omega
  subst hcs hn
  clear hk hlt
  refine RunB ?_ trivial trivial trivial trivial trivial trivial trivial trivial trivial trivial trivial trivial
  refine AWP_loopS [4, 11, 12, 13, 60, 61, 62, 63, 64, 65, 66, 67, 68, 69, 70, 71, 72, 73, 74, 75, 76, 77, 78, 79, 80, 81, 82, 83, 84, 85, 86, 87, 88, 89, 90, 91, 92, 93, 94, 95, 96, 97, 98, 99] (N := Nat × Dm × Dm × List AV) (fun ⟨i, A, B, js⟩ => [js.getD 0 .und, js.getD 1 .und, js.getD 2 .und, js.getD 3 .und, .int .i64 (i : Int), js.getD 4 .und, js.getD 5 .und, js.getD 6 .und, js.getD 7 .und, js.getD 8 .und, js.getD 9 .und, js.getD 10 .und, js.getD 11 .und, js.getD 12 .und, js.getD 13 .und, js.getD 14 .und, js.getD 15 .und, js.getD 16 .und, js.getD 17 .und, js.getD 18 .und, js.getD 19 .und, js.getD 20 .und, js.getD 21 .und, js.getD 22 .und, js.getD 23 .und, js.getD 24 .und, js.getD 25 .und, js.getD 26 .und, js.getD 27 .und, js.getD 28 .und, js.getD 29 .und, js.getD 30 .und, js.getD 31 .und, js.getD 32 .und, js.getD 33 .und, js.getD 34 .und, js.getD 35 .und, js.getD 36 .und, js.getD 37 .und, js.getD 38 .und, js.getD 39 .und, js.getD 40 .und, js.getD 41 .und, js.getD 42 .und]) (fun ⟨i, A, B, js⟩ => ⟨[(3, [.map 2]), (1, [.map 0])], [(5, L.length), (4, .mp (.one .str) (seenA L)), (2, mpD B), (0, mpD A)], 6⟩) (fun ⟨i, A, B, js⟩ => i ≤ L.length ∧ A = putAll fV [] (L.take i) ∧ B = putAll fV [] ((turned L t).take i)) (fun ⟨i, A, B, js⟩ => L.length - i) ⟨0, [], [], [_, _, _, _, _, _, _, _, _, _, _, _, _, _, _, _, _, _, _, _, _, _, _, _, _, _, _, _, _, _, _, _, _, _, _, _, _, _, _, _, _, _, _]⟩ rfl rfl ?hi0 ?_
  rotate_left
  rintro ⟨i, A, B, js⟩ sl_ hs hi
  simp only [setsF, setF, Option.some.injEq] at hs
  subst hs
  case hi0 => exact ⟨by omega, rfl, rfl⟩
  obtain ⟨hi1, hA, hB⟩ := hi
  have okA : DmOk A := by rw [hA]; exact putAll_ok fV _ DmOk.nil
  have okB : DmOk B := by rw [hB]; exact putAll_ok fV _ DmOk.nil
  by_cases hlt : i < L.length
  · have hL0 : 0 < L.length := by omega
    have hx : L[i]? = some L[i] := List.getElem?_eq_getElem hlt
    have hj := Nat.mod_lt (i + t % L.length) hL0
    have hy : L[(i + t % L.length) % L.length]? = some (L[(i + t % L.length) % L.length]'hj) := List.getElem?_eq_getElem hj
    have hyt : (turned L t)[i]? = some (L[(i + t % L.length) % L.length]'hj) := by
      rw [turned, List.getElem?_map, List.getElem?_range hlt]
      simp only [Option.map_some, List.getD_eq_getElem?_getD, hy, Option.getD_some]
    have xl := hL _ (List.getElem_mem hlt)
    have yl := hL _ (List.getElem_mem hj)
    generalize L[i] = x at hx xl
    generalize L[(i + t % L.length) % L.length]'hj = y at hy hyt yl
    have hA1 : putAll fV [] (L.take (i + 1)) = dput A x (fV x) := by rw [List.take_add_one, hx, hA]; exact putAll_snoc fV _ _ _
    have hB1 : putAll fV [] ((turned L t).take (i + 1)) = dput B y (fV y) := by rw [List.take_add_one, hyt, hB]; exact putAll_snoc fV _ _ _
    have hcx : (L.map bsA)[i]? = some (bsA x) := by rw [List.getElem?_map, hx]; rfl
    have hcy : (L.map bsA)[(i + t % L.length) % L.length]? = some (bsA y) := by rw [List.getElem?_map, hy]; rfl
    have p1 := put11_val x (x ++ [118])
    have p2 := put11_val y (y ++ [118])
    have k1 := putE_ok (nm := x) (v := x ++ [118]) (by omega) (by omega) (by rw [List.length_append]; simp only [List.length_singleton]; omega)
    have k2 := putE_ok (nm := y) (v := y ++ [118]) (by omega) (by omega) (by rw [List.length_append]; simp only [List.length_singleton]; omega)
    have q1 := dapply_sys A okA (putE x (x ++ [118])) (putE_mid (by omega) (by rw [List.length_append]; simp only [List.length_singleton]; omega)) 1 0
    rw [(dap_put k1 rfl).1, (dap_put k1 rfl).2] at q1
    have q2 := dapply_sys B okB (putE y (y ++ [118])) (putE_mid (by omega) (by rw [List.length_append]; simp only [List.length_singleton]; omega)) 3 2
    rw [(dap_put k2 rfl).1, (dap_put k2 rfl).2] at q2
    simp only [fV] at hA1 hB1
    have hwr : 0 ≤ (t : Int) % (L.length : Int) ∧ (t : Int) % (L.length : Int) < (L.length : Int) := ⟨Int.emod_nonneg _ (by omega), Int.emod_lt_of_pos _ (by omega)⟩
    refine RunB ?_ trivial trivial trivial trivial trivial trivial trivial trivial trivial @wpCs_wk trivial trivial
    rw [show ((i : Int) + (t : Int) % (L.length : Int)) % (L.length : Int) = (((i + t % L.length) % L.length : Nat) : Int) from by rw [Int.natCast_emod, Int.natCast_add, Int.natCast_emod]]
    generalize (i + t % L.length) % L.length = j at *
    refine RunB ?_ trivial trivial trivial trivial trivial trivial trivial trivial trivial @wpCs_wk trivial trivial
    refine AOPS_str (s := x) (u := [118]) (av := .str (x ++ [118])) rfl rfl (str_add (by omega)) rfl ?_
    simp only [aput, List.set_cons_succ, List.set_cons_zero]
    refine RunB ?_ trivial trivial trivial trivial trivial trivial trivial trivial trivial @wpCs_wk trivial trivial
    refine AOPS_str (s := y) (u := [118]) (av := .str (y ++ [118])) rfl rfl (str_add (by omega)) rfl ?_
    simp only [aput, List.set_cons_succ, List.set_cons_zero]
    refine RunB ?_ trivial trivial trivial trivial trivial trivial trivial trivial trivial @wpCs_wk trivial trivial
    refine ALoopQ_normal ⟨i + 1, dput A x (x ++ [118]), dput B y (y ++ [118]), [_, _, _, _, _, _, _, _, _, _, _, _, _, _, _, _, _, _, _, _, _, _, _, _, _, _, _, _, _, _, _, _, _, _, _, _, _, _, _, _, _, _, _]⟩ rfl rfl ?hi1 ?hm1
    case hi1 => exact ⟨by omega, hA1.symm, hB1.symm⟩
    case hm1 => simp only; omega
  obtain rfl : i = L.length := by omega
  have hAB : A = B := by
    refine dm_ext okA okB fun q => ?_
    have htl : (turned L t).length = L.length := by rw [turned, List.length_map, List.length_range]
    rw [hA, hB, List.take_length, ← htl, List.take_length, putAll_get, putAll_get]
    by_cases hL0 : 0 < L.length
    · have : q ∈ L ↔ q ∈ turned L t := turn_mem (t := t) hL0 q []
      by_cases hq : q ∈ L
      · rw [if_pos hq, if_pos (this.1 hq)]
      · rw [if_neg hq, if_neg (fun h => hq (this.2 h))]
    · obtain rfl : L = [] := List.eq_nil_of_length_eq_zero (by omega)
      rfl
  have hAl : A.length = L.length := by rw [hA, List.take_length, putAll_len fV L DmOk.nil hnd (fun n _ => rfl)]; simp
  have hAg : ∀ q v, dget A q = some v → v = q ++ [118] ∧ q ∈ L := fun q v h => by
    rw [hA, List.take_length, putAll_get] at h
    split at h
    · rename_i hq
      exact ⟨(Option.some.inj h).symm, hq⟩
    · cases h
  clear hA hB hlt
  subst hAB
  have a1 := dall_sys A okA (by omega) 1 0
  have a2 := dsame_sys A A okA okA 1 3 0 2
  rw [decide_eq_true rfl] at a2
  have hAl2 : (A.length : Int) = (L.length : Int) := by rw [hAl]
  refine RunB ?_ trivial trivial trivial trivial trivial trivial trivial trivial trivial trivial trivial trivial
  refine AWP_loopW [4, 15, 16, 17, 18, 104, 105, 106, 107, 108, 109, 110, 111, 112, 113, 114, 115, 116, 117, 118, 119, 120, 121, 122, 123, 124, 125, 126, 127, 128, 129, 130, 131, 132, 133, 134, 135, 136, 137, 138, 139, 140, 141, 142, 143, 144] (N := Nat × Int × List AV) (fun ⟨i, nx, js⟩ => [js.getD 0 .und, js.getD 1 .und, js.getD 2 .und, js.getD 3 .und, js.getD 4 .und, .int .i64 (i : Int), js.getD 5 .und, js.getD 6 .und, js.getD 7 .und, js.getD 8 .und, js.getD 9 .und, js.getD 10 .und, js.getD 11 .und, js.getD 12 .und, js.getD 13 .und, js.getD 14 .und, js.getD 15 .und, js.getD 16 .und, js.getD 17 .und, js.getD 18 .und, js.getD 19 .und, js.getD 20 .und, js.getD 21 .und, js.getD 22 .und, js.getD 23 .und, js.getD 24 .und, js.getD 25 .und, js.getD 26 .und, js.getD 27 .und, js.getD 28 .und, js.getD 29 .und, js.getD 30 .und, js.getD 31 .und, js.getD 32 .und, js.getD 33 .und, js.getD 34 .und, js.getD 35 .und, js.getD 36 .und, js.getD 37 .und, js.getD 38 .und, js.getD 39 .und, js.getD 40 .und, js.getD 41 .und, js.getD 42 .und, js.getD 43 .und, js.getD 44 .und]) (fun ⟨i, nx, js⟩ => ⟨[(3, [.map 2]), (1, [.map 0])], [(2, mpD A), (0, mpD A)], nx⟩) (fun ⟨i, nx, js⟩ => i ≤ A.length ∧ 6 ≤ nx) (fun ⟨i, nx, js⟩ => A.length - i) ⟨0, 6, [_, _, _, _, _, _, _, _, _, _, _, _, _, _, _, _, _, _, _, _, _, _, _, _, _, _, _, _, _, _, _, _, _, _, _, _, _, _, _, _, _, _, _, _, _]⟩ rfl ?hs0 ?hi0 ?_
  rotate_left 2
  rintro ⟨i, nx, js⟩ sl_ hs hi
  simp only [setsF, setF, Option.some.injEq] at hs
  subst hs
  case hs0 => exact ASub.dropt (ASub.dropt (ASub.refl _) rfl) rfl
  case hi0 => exact ⟨by omega, by omega⟩
  obtain ⟨hiA, hnx⟩ := hi
  by_cases hlt : i < A.length
  · have hel : A[i]? = some A[i] := List.getElem?_eq_getElem hlt
    have hgd := dget_mem okA (List.getElem_mem hlt)
    have hprev : 0 < i → ∃ d', A[i - 1]? = some d' ∧ d'.1 < A[i].1 ∧ d'.1 ∈ L := fun h0 => by
      have h1 := List.pairwise_iff_getElem.1 okA (i - 1) i (by omega) hlt (by omega)
      exact ⟨A[i - 1], List.getElem?_eq_getElem (by omega), h1, (hAg _ _ (dget_mem okA (List.getElem_mem (show i - 1 < A.length by omega)))).2⟩
    generalize A[i] = d at hel hgd hprev
    obtain ⟨hv, hdL⟩ := hAg _ _ hgd
    have dl := hL _ hdL
    obtain ⟨dk, dv⟩ := d
    simp only at hv hgd hdL dl hprev
    subst hv
    have hcl := dcC_load hel
    simp only at hcl
    have g1 := dget_sys A okA dk (by omega) 1 0
    rw [hgd] at g1
    simp only [Option.getD_some, Option.isSome_some] at g1
    have hxl : (dk ++ [118]).length ≤ 1000 := by rw [List.length_append]; simp only [List.length_singleton]; omega
    by_cases hi0 : 0 < i
    · obtain ⟨d', hd1, hd2, hd3⟩ := hprev hi0
      have dl' := hL _ hd3
      have f1 := dcC_name hd1
      rw [show i - 1 = ((i : Int) - 1).toNat by omega] at f1
      have hb := blt hd2
      refine RunB ?_ trivial trivial trivial trivial trivial trivial trivial trivial trivial trivial trivial trivial
      refine ATK_str (s := dk) (u := [118]) (av := .str (dk ++ [118])) rfl rfl (str_add (by omega)) rfl ?_
      simp only [aput, List.set_cons_succ, List.set_cons_zero]
      refine RunB ?_ trivial trivial trivial trivial trivial trivial trivial trivial trivial trivial trivial trivial
      refine ALoopW_normal ⟨i + 1, nx + 1, [_, _, _, _, _, _, _, _, _, _, _, _, _, _, _, _, _, _, _, _, _, _, _, _, _, _, _, _, _, _, _, _, _, _, _, _, _, _, _, _, _, _, _, _, _]⟩ rfl ?hs1 ?hi1 ?hm1
      case hs1 => exact (ASub.refl _).drop (by simp only [alook]; repeat (first | rw [if_neg (by omega)]))
      case hi1 => exact ⟨by omega, by show (6 : Int) ≤ nx + 1; omega⟩
      case hm1 => simp only; omega
    · refine RunB ?_ trivial trivial trivial trivial trivial trivial trivial trivial trivial trivial trivial trivial
      refine ATK_str (s := dk) (u := [118]) (av := .str (dk ++ [118])) rfl rfl (str_add (by omega)) rfl ?_
      simp only [aput, List.set_cons_succ, List.set_cons_zero]
      refine RunB ?_ trivial trivial trivial trivial trivial trivial trivial trivial trivial trivial trivial trivial
      refine ALoopW_normal ⟨i + 1, nx + 1, [_, _, _, _, _, _, _, _, _, _, _, _, _, _, _, _, _, _, _, _, _, _, _, _, _, _, _, _, _, _, _, _, _, _, _, _, _, _, _, _, _, _, _, _, _]⟩ rfl ?hs1 ?hi1 ?hm1
      case hs1 => exact (ASub.refl _).drop (by simp only [alook]; repeat (first | rw [if_neg (by omega)]))
      case hi1 => exact ⟨by omega, by show (6 : Int) ≤ nx + 1; omega⟩
      case hm1 => simp only; omega
  obtain rfl : i = A.length := by omega
  refine RunB ?_ trivial trivial trivial trivial trivial trivial trivial trivial trivial trivial trivial trivial
  rfl
theorem DocsOrder_walk (w : World) (A : Option Addr) (n c : Nat) (l : List Nm) (hl : RSlice 1 RBytes w [.slice A n c] l) (x : Int) (hx : (Lit.int .i64 x).wf = true) : Calls Try.prog 11 #[.slice A n c, .int .i64 x] w (Tells w true) := by
  obtain ⟨h1, h2, h3⟩ := RSlice.repsA1 bsA RBytes.repsA hl
  exact (DocsOrder_law l x h2 (fun m hm => by obtain ⟨v, hv⟩ := h3 m hm; exact RBytes.len hv)).tells (.cons h1 (.one Reps_int))
end Go.Proofs.Ytnjkklkjlloedaa
