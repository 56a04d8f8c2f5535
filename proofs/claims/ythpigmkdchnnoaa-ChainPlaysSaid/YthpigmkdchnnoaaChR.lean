/- The reference of layers 7 and 12, by the abstract machine. -/
import Derived.Test.YthpigmkdchnnoaaChA
namespace Go.Proofs.Ythpigmkdchnnoaa
open Go.RowKit
set_option linter.unusedVariables false
set_option linter.unusedSimpArgs false
set_option maxRecDepth 10000
/-- The reference's list of things, of sums alone. -/
def rthA (x : List UInt8) : List AV := [.int .i64 72, bsA [], bsA [], bsA [], bsA x]
def rthCs : List (List UInt8) → List AV
  | [] => []
  | t :: r => rthA t ++ rthCs r
theorem rthCs_snoc : ∀ (a : List (List UInt8)) (t : List UInt8), rthCs (a ++ [t]) = rthCs a ++ rthA t
  | [], t => by simp [rthCs]
  | x :: a, t => by simp only [List.cons_append, rthCs, rthCs_snoc a t, List.append_assoc]
theorem rthCs_len : ∀ a : List (List UInt8), (rthCs a).length = a.length * 5
  | [] => rfl
  | x :: a => by simp only [rthCs, List.length_append, rthCs_len a, rthA, List.length_cons, List.length_nil]; omega
theorem rthCs_shut : ∀ a : List (List UInt8), AV.shutL (rthCs a) = true
  | [] => rfl
  | x :: a => by simp only [rthCs]; exact shutL_append _ _ (by simp only [rthA, AV.shutL, AV.shut, shutL_bvA, Bool.and_self]) (rthCs_shut a)
theorem rthCs_ones : ∀ a : List (List UInt8), (rthCs a).all AV.one = true
  | [] => rfl
  | x :: a => by simp only [rthCs, List.all_append, rthCs_ones a, rthA, List.all_cons, List.all_nil, AV.one, Bool.and_self]
theorem rthCs_at : ∀ {a : List (List UInt8)} {k : Nat} {x : List UInt8}, a[k]? = some x → subF (k * 5) 5 (rthCs a) = some (rthA x)
  | t :: a, 0, x, h => by
    cases h
    simp only [rthCs, rthA, List.cons_append, List.nil_append]
    rfl
  | t :: a, k + 1, x, h => by
    have := rthCs_at (a := a) (k := k) (x := x) (by simpa using h)
    rw [show (k + 1) * 5 = k * 5 + 1 + 1 + 1 + 1 + 1 by omega]
    simp only [rthCs, rthA, List.cons_append, List.nil_append]
    exact this
theorem rthCs_load {a : List (List UInt8)} {k : Nat} {x : List UInt8} (h : a[k]? = some x) : aload true 5 (rthCs a) (k * 5) = some (.agg (rthA x)) := by
  obtain ⟨h1, h2⟩ := subF_ok (rthCs_at h)
  simp only [aload, if_true]
  rw [if_pos h2, h1]
/-- The reference's suite: its list is the buffer l. -/
def rtC (xs : List (List UInt8)) (l : Int) : List AV := [.sl (.tok l xs.length 5) (rthCs xs) xs.length]
theorem rtC_ren (f : Int → Int) (xs : List (List UInt8)) (l : Int) : AV.renL f (rtC xs l) = rtC xs (f l) := by
  simp only [rtC, AV.renL, AV.ren, AOwn.ren, AV.renL_shut _ _ (rthCs_shut xs)]
theorem rtC_ids (k : Int) (xs : List (List UInt8)) (l : Int) (hl : inK k l = true) : AV.idsL (inK k) (rtC xs l) = true := by
  simp only [rtC, AV.idsL, AV.ids, AOwn.ids, AV.idsL_shut _ _ (rthCs_shut xs), hl, Bool.and_self]
theorem RtSys.mk {g : FuncId} {args : List AV} {R : AV} {xs xs' : List (List UInt8)} {s l : Int} (hA : AV.shutL args = true) (hR : R.shut = true)
    (h : ACalls Try.prog g (.ptr 0 0 :: args) ⟨[(0, rtC xs 1)], [(1, lnT xs)], 2⟩ (fun rv σ1 => rv.wk = R ∧ 2 ≤ σ1.next ∧ alook σ1.objs 0 = some (rtC xs' 1) ∧ alook σ1.toks 1 = some (lnT xs'))) :
    ASys Try.prog g (.ptr s 0 :: args) R [(s, rtC xs l, rtC xs' l)] [(l, lnT xs, lnT xs')] := by
  refine ASys.mk (args0 := .ptr 0 0 :: args) (zo := [(0, rtC xs 1, rtC xs' 1)]) (zt := [(1, lnT xs, lnT xs')]) 2 (fun i => if i = 0 then s else l) ?_ ?_ rfl (by omega) ?_ ?_ ?_ ?_ ?_ hR ?_
  · simp [AV.renL, AV.ren, AV.renL_shut _ _ hA]
  · simp only [List.map_cons, List.map_nil, rtC_ren]; rfl
  · intro i h0 h1
    simp [sysIds]
    omega
  · intro i hi
    simp [sysIds] at hi
    omega
  · simp [sysIds]
  · simp only [AV.idsL, AV.ids, AV.idsL_shut _ _ hA]; rfl
  · intro e he
    simp only [List.mem_singleton] at he
    subst he
    exact ⟨rtC_ids _ _ _ rfl, rtC_ids _ _ _ rfl⟩
  · refine h.sub (fun rv σ' ⟨h1, h2, h3, h4⟩ => ⟨σ', ASub.refl _, h1, h2, ?_, ?_⟩)
    · intro e he
      simp only [List.mem_singleton] at he
      subst he; exact h3
    · intro e he
      simp only [List.mem_singleton] at he
      subst he; exact h4
theorem sumX_find {xs : List (List UInt8)} {x : List UInt8} {k : Nat} (h : ∀ j < k, xs.getD j [] ≠ x) (hk : xs[k]? = some x) : sumN xs x = k + 1 ∧ sumX xs x = xs := by
  have hm := List.mem_of_getElem? hk
  refine ⟨?_, by unfold sumX; rw [if_pos hm]⟩
  unfold sumN
  have h1 := List.idxOf_lt_length_of_mem hm
  have h2 : xs[xs.idxOf x] = x := List.getElem_idxOf h1
  have hkl := (List.getElem?_eq_some_iff.1 hk).1
  have h4 : xs.idxOf x ≤ k := by
    refine Nat.le_of_not_lt fun hlt => ?_
    have := List.not_of_lt_findIdx (show k < List.findIdx (fun y => y == x) xs from hlt)
    rw [List.getElem?_eq_getElem hkl] at hk
    simp only [Option.some.injEq] at hk
    simp [hk] at this
  have h5 : ¬ xs.idxOf x < k := fun hlt => h _ hlt (by rw [List.getD_eq_getElem?_getD, List.getElem?_eq_getElem h1]; exact h2)
  omega
theorem sumX_none {xs : List (List UInt8)} {x : List UInt8} (h : ∀ j < xs.length, xs.getD j [] ≠ x) : sumN xs x = xs.length + 1 ∧ sumX xs x = xs ++ [x] := by
  have hm : x ∉ xs := fun hm => by
    obtain ⟨i, hi, he⟩ := List.getElem_of_mem hm
    exact h i hi (by rw [List.getD_eq_getElem?_getD, List.getElem?_eq_getElem hi]; exact he)
  exact ⟨by unfold sumN; rw [List.idxOf_eq_length hm], by unfold sumX; rw [if_neg hm]⟩
theorem ronce_sys (xs : List (List UInt8)) (x : List UInt8) (hn : xs.length ≤ 1000000) (hx : x.length ≤ 1000000) (hxs : ∀ y ∈ xs, y.length ≤ 1000000) (s l : Int) : ASys Try.prog 42 [.ptr s 0, .agg [.int .i64 72, bsA [], bsA [], bsA [], bsA x]] (.int .i64 (sumN xs x : Int))
    [(s, rtC xs l, rtC (sumX xs x) l)] [(l, lnT xs, lnT (sumX xs x))] := by
  refine RtSys.mk (by simp only [AV.shutL, AV.shut, shutL_bvA, Bool.and_self]) (by simp [AV.shut]) ?_
  refine ACalls_body Try.func42 rfl rfl ?_
  simp only [Try.ntmps42, List.length_cons, List.length_nil, Nat.reduceAdd, Nat.reduceSub, List.replicate_succ, List.replicate_zero, List.cons_append, List.nil_append]
  refine Run ?_ trivial trivial trivial trivial trivial trivial trivial trivial trivial trivial trivial trivial
  refine AWP_loopW [4, 5, 6, 7, 8, 9, 10, 11, 12, 13, 14, 15, 16, 17, 18, 19, 20, 21, 22, 23, 24, 25, 26, 27, 28, 29, 30, 31, 32, 33, 34, 35, 36, 37, 38, 39, 40, 41, 42, 43, 44, 45, 46, 47] (N := Nat × Int × List AV) (fun ⟨k, nx, js⟩ => [js.getD 0 .und, .int .i64 (k : Int), js.getD 1 .und, js.getD 2 .und, js.getD 3 .und, js.getD 4 .und, js.getD 5 .und, js.getD 6 .und, js.getD 7 .und, js.getD 8 .und, js.getD 9 .und, js.getD 10 .und, js.getD 11 .und, js.getD 12 .und, js.getD 13 .und, js.getD 14 .und, js.getD 15 .und, js.getD 16 .und, js.getD 17 .und, js.getD 18 .und, js.getD 19 .und, js.getD 20 .und, js.getD 21 .und, js.getD 22 .und, js.getD 23 .und, js.getD 24 .und, js.getD 25 .und, js.getD 26 .und, js.getD 27 .und, js.getD 28 .und, js.getD 29 .und, js.getD 30 .und, js.getD 31 .und, js.getD 32 .und, js.getD 33 .und, js.getD 34 .und, js.getD 35 .und, js.getD 36 .und, js.getD 37 .und, js.getD 38 .und, js.getD 39 .und, js.getD 40 .und, js.getD 41 .und, js.getD 42 .und]) (fun ⟨k, nx, js⟩ => ⟨[(2, [.int .i64 72, bsA [], bsA [], bsA [], bsA x]), (0, rtC xs 1)], [(1, lnT xs)], nx⟩) (fun ⟨k, nx, js⟩ => 3 ≤ nx ∧ k ≤ xs.length ∧ ∀ j < k, xs.getD j [] ≠ x) (fun ⟨k, nx, js⟩ => xs.length - k) ⟨0, 3, [_, _, _, _, _, _, _, _, _, _, _, _, _, _, _, _, _, _, _, _, _, _, _, _, _, _, _, _, _, _, _, _, _, _, _, _, _, _, _, _, _, _, _]⟩ rfl ?hs0 ?hi0 ?_
  rotate_left 2
  rintro ⟨k, nx, js⟩ sl_ hs hi
  simp only [setsF, setF, Option.some.injEq] at hs
  subst hs
  case hs0 => exact ASub.refl _
  case hi0 => exact ⟨by omega, by omega, fun j hj => by omega⟩
  obtain ⟨hnx, hk, hn⟩ := hi
  by_cases hlt : k < xs.length
  · have hel : xs[k]? = some xs[k] := List.getElem?_eq_getElem hlt
    have hc := rthCs_load hel
    have hy := hxs _ (List.getElem_mem hlt)
    unfold rthA at hc
    by_cases he : xs[k] = x
    · obtain ⟨h1, h2⟩ := sumX_find hn (hel.trans (by rw [he]))
      rw [he] at hc
      rw [h1, h2]
      refine Run ?_ trivial trivial trivial trivial trivial trivial trivial trivial trivial trivial trivial trivial
      refine ⟨rfl, by show (2 : Int) ≤ nx + 1; omega, ?_, rfl⟩
      simp only [alook]
      rw [if_neg (by omega)]
      rfl
    · refine Run ?_ trivial trivial trivial trivial trivial trivial trivial trivial trivial trivial trivial trivial
      refine ALoopW_normal ⟨k + 1, nx + 1, [_, _, _, _, _, _, _, _, _, _, _, _, _, _, _, _, _, _, _, _, _, _, _, _, _, _, _, _, _, _, _, _, _, _, _, _, _, _, _, _, _, _, _]⟩ rfl ?hs1 ?hi1 ?hm1
      case hs1 => exact (ASub.refl _).drop (by simp only [alook]; rw [if_neg (by omega), if_neg (by omega)])
      case hi1 =>
        refine ⟨by omega, by omega, fun j hj => ?_⟩
        by_cases hjk : j = k
        · subst hjk
          rw [List.getD_eq_getElem?_getD, hel]
          exact he
        · exact hn j (by omega)
      case hm1 => simp only; omega
  · obtain rfl : k = xs.length := by omega
    obtain ⟨h1, h2⟩ := sumX_none hn
    rw [h1, h2]
    refine Run ?_ trivial trivial trivial trivial trivial trivial trivial trivial trivial trivial trivial trivial
    refine ⟨rfl, by show (2 : Int) ≤ nx; omega, ?_, ?_⟩
    · show some _ = some _
      simp only [rtC, rthCs_snoc, rthA, List.length_append, List.length_cons, List.length_nil, Nat.zero_add]
    · show some _ = some _
      simp only [lnT, List.length_append, List.length_cons, List.length_nil, Nat.zero_add]
theorem rsum_sys (xs : List (List UInt8)) (x : List UInt8) (hn : xs.length ≤ 1000000) (hx : x.length ≤ 1000000) (hxs : ∀ y ∈ xs, y.length ≤ 1000000) (s l : Int) : ASys Try.prog 33 [.ptr s 0, bsA x] (bsA (signB 72 (sumN xs x)))
    [(s, rtC xs l, rtC (sumX xs x) l)] [(l, lnT xs, lnT (sumX xs x))] := by
  refine RtSys.mk (by simp only [AV.shutL, AV.shut, shutL_bvA, Bool.and_self]) (bsA_shut _) ?_
  refine ACalls_body Try.func33 rfl rfl ?_
  simp only [Try.ntmps33, List.length_cons, List.length_nil, Nat.reduceAdd, Nat.reduceSub, List.replicate_succ, List.replicate_zero, List.cons_append, List.nil_append]
  have hN : sumN xs x ≤ 1000000000000000 := by unfold sumN; have := List.idxOf_le_length (a := x) (l := xs); omega
  have e1 : ASys Try.prog 42 [.ptr 0 0, .agg [.int .i64 72, .sl .none [] 0, .sl .none [] 0, .sl .none [] 0, bsA x]] (.int .i64 (sumN xs x : Int))
    [(0, rtC xs 1, rtC (sumX xs x) 1)] [(1, lnT xs, lnT (sumX xs x))] := ronce_sys xs x hn hx hxs 0 1
  have e2 := refSign_val 72 (sumN xs x) hN
  rw [show (((72 : UInt8).toNat : Nat) : Int) = 72 from rfl] at e2
  refine Run ?_ trivial trivial trivial trivial trivial trivial trivial trivial trivial trivial trivial trivial
  refine ⟨?_, by show (2 : Int) ≤ 2; omega, rfl, rfl⟩
  rw [aone]
  unfold AV.wk
  rw [AV.wkL_bvA]
  rfl
end Go.Proofs.Ythpigmkdchnnoaa
