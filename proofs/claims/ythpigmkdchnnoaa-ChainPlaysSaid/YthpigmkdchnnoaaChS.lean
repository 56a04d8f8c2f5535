/- The reference of layer 12, by the abstract machine: Append, Check. -/
import Derived.Test.YthpigmkdchnnoaaChR
namespace Go.Proofs.Ythpigmkdchnnoaa
open Go.RowKit
set_option linter.unusedVariables false
set_option linter.unusedSimpArgs false
set_option maxRecDepth 10000
/-- The reference's chain: links, sums. -/
def rcC (ls ss : List (List UInt8)) (a b : Int) : List AV := [.sl (.tok a ls.length 1) (ls.map bsA) ls.length, .sl (.tok b ss.length 1) (ss.map bsA) ss.length]
theorem rcC_ren (f : Int → Int) (ls ss : List (List UInt8)) (a b : Int) : AV.renL f (rcC ls ss a b) = rcC ls ss (f a) (f b) := by
  simp only [rcC, AV.renL, AV.ren, AOwn.ren, AV.renL_shut _ _ (bsAs_shut _)]
theorem rcC_ids (k : Int) (ls ss : List (List UInt8)) (a b : Int) (ha : inK k a = true) (hb : inK k b = true) : AV.idsL (inK k) (rcC ls ss a b) = true := by
  simp only [rcC, AV.idsL, AV.ids, AOwn.ids, bsAs_ids, ha, hb, Bool.and_self]
theorem RcSys.mk {g : FuncId} {args : List AV} {R : AV} {ls ss ls' ss' xs xs' : List (List UInt8)} {c t a b l : Int} (hA : AV.shutL args = true) (hR : R.shut = true)
    (h : ACalls Try.prog g (.ptr 0 0 :: .ptr 1 0 :: args) ⟨[(0, rcC ls ss 2 3), (1, rtC xs 4)], [(2, lnT ls), (3, lnT ss), (4, lnT xs)], 5⟩ (fun rv σ1 => rv.wk = R ∧ 5 ≤ σ1.next ∧ alook σ1.objs 0 = some (rcC ls' ss' 2 3) ∧ alook σ1.objs 1 = some (rtC xs' 4) ∧ alook σ1.toks 2 = some (lnT ls') ∧ alook σ1.toks 3 = some (lnT ss') ∧ alook σ1.toks 4 = some (lnT xs'))) :
    ASys Try.prog g (.ptr c 0 :: .ptr t 0 :: args) R [(c, rcC ls ss a b, rcC ls' ss' a b), (t, rtC xs l, rtC xs' l)] [(a, lnT ls, lnT ls'), (b, lnT ss, lnT ss'), (l, lnT xs, lnT xs')] := by
  refine ASys.mk (args0 := .ptr 0 0 :: .ptr 1 0 :: args) (zo := [(0, rcC ls ss 2 3, rcC ls' ss' 2 3), (1, rtC xs 4, rtC xs' 4)]) (zt := [(2, lnT ls, lnT ls'), (3, lnT ss, lnT ss'), (4, lnT xs, lnT xs')]) 5 (fun i => if i = 0 then c else if i = 1 then t else if i = 2 then a else if i = 3 then b else l) ?_ ?_ rfl (by omega) ?_ ?_ ?_ ?_ ?_ hR ?_
  · simp [AV.renL, AV.ren, AV.renL_shut _ _ hA]
  · simp only [List.map_cons, List.map_nil, rtC_ren, rcC_ren]; rfl
  · intro i h0 h1
    simp [sysIds]
    omega
  · intro i hi
    simp [sysIds] at hi
    omega
  · simp [sysIds]
  · simp only [AV.idsL, AV.ids, AV.idsL_shut _ _ hA]; rfl
  · intro e he
    simp only [List.mem_cons, List.not_mem_nil, or_false] at he
    rcases he with rfl | rfl
    · exact ⟨rcC_ids _ _ _ _ _ rfl rfl, rcC_ids _ _ _ _ _ rfl rfl⟩
    · exact ⟨rtC_ids _ _ _ rfl, rtC_ids _ _ _ rfl⟩
  · refine h.sub (fun rv σ' ⟨h1, h2, h3, h4, h5, h6, h7⟩ => ⟨σ', ASub.refl _, h1, h2, ?_, ?_⟩)
    · intro e he
      simp only [List.mem_cons, List.not_mem_nil, or_false] at he
      rcases he with rfl | rfl
      · exact h3
      · exact h4
    · intro e he
      simp only [List.mem_cons, List.not_mem_nil, or_false] at he
      rcases he with rfl | rfl | rfl
      · exact h5
      · exact h6
      · exact h7
set_option maxHeartbeats 20000000 in
theorem rappend_sys (ls ss xs : List (List UInt8)) (x : List UInt8) (h : ChOk ls ss xs) (hx : x.length ≤ 1000000) (hxs : ∀ y ∈ xs, y.length ≤ 1000000) (c t a b l : Int) : ASys Try.prog 22 [.ptr c 0, .ptr t 0, bsA x] (.int .i64 (apE ls x))
    [(c, rcC ls ss a b, rcC (apL ls x) (apS ls ss xs x) a b), (t, rtC xs l, rtC (apX ls ss xs x) l)] [(a, lnT ls, lnT (apL ls x)), (b, lnT ss, lnT (apS ls ss xs x)), (l, lnT xs, lnT (apX ls ss xs x))] := by
  refine RcSys.mk (by simp only [AV.shutL, bsA_shut, Bool.and_self]) (by simp [AV.shut]) ?_
  refine ACalls_body Try.func22 rfl rfl ?_
  simp only [Try.ntmps22, List.length_cons, List.length_nil, Nat.reduceAdd, Nat.reduceSub, List.replicate_succ, List.replicate_zero, List.cons_append, List.nil_append]
  obtain ⟨hlen, hsum, hmost, _, hfew⟩ := h
  unfold apL apS apX apE
  by_cases h0 : x.length < 1
  · rw [if_pos (.inl h0)]
    refine RunB ?_ trivial trivial trivial trivial trivial trivial trivial trivial trivial trivial trivial trivial
    exact ⟨rfl, by show (5 : Int) ≤ 5; omega, rfl, rfl, rfl, rfl, rfl⟩
  by_cases h1 : 4096 < x.length
  · rw [if_pos (.inr h1)]
    refine RunB ?_ trivial trivial trivial trivial trivial trivial trivial trivial trivial trivial trivial trivial
    exact ⟨rfl, by show (5 : Int) ≤ 5; omega, rfl, rfl, rfl, rfl, rfl⟩
  rw [if_neg (by omega)]
  by_cases h2 : ls.length = 64
  · rw [if_pos h2]
    refine RunB ?_ trivial trivial trivial trivial trivial trivial trivial trivial trivial trivial trivial trivial
    exact ⟨rfl, by show (5 : Int) ≤ 5; omega, rfl, rfl, rfl, rfl, rfl⟩
  · rw [if_neg h2]
    simp only [if_true]
    have hlt : ls.length < ss.length := by omega
    obtain ⟨y, hy⟩ : ∃ y, ss[ls.length]? = some y := ⟨_, List.getElem?_eq_getElem hlt⟩
    have hy32 := hsum y (List.mem_of_getElem? hy)
    have hT : apT ls ss x = y ++ x := by unfold apT; rw [List.getD_eq_getElem?_getD, hy]; rfl
    have hc : (ss.map bsA)[ls.length]? = some (bsA y) := by rw [List.getElem?_map, hy]; rfl
    have e1 := rsum_sys xs (y ++ x) hfew (by rw [List.length_append]; omega) hxs 1 4
    rw [show bsA (y ++ x) = .sl .none (y.map bvA ++ x.map bvA) (0 + y.length + x.length) by rw [bsA, List.map_append, List.length_append, Nat.zero_add]] at e1
    rw [hT]
    refine RunB ?_ trivial trivial trivial trivial trivial trivial trivial trivial trivial trivial trivial trivial
    refine ⟨rfl, by show (5 : Int) ≤ 6; omega, ?_, rfl, ?_, ?_, rfl⟩
    · show some _ = some _
      simp only [rcC, List.map_append, List.map_cons, List.map_nil, List.length_append, List.length_cons, List.length_nil, Nat.zero_add]
    · show some _ = some _
      simp only [lnT, List.length_append, List.length_cons, List.length_nil, Nat.zero_add]
    · show some _ = some _
      simp only [lnT, List.length_append, List.length_cons, List.length_nil, Nat.zero_add]
theorem RkSys.mk {g : FuncId} {args : List AV} {R : AV} {ls ss : List (List UInt8)} {c a b : Int} (hA : AV.shutL args = true) (hR : R.shut = true)
    (h : ACalls Try.prog g (.ptr 0 0 :: args) ⟨[(0, rcC ls ss 1 2)], [(1, lnT ls), (2, lnT ss)], 3⟩ (fun rv σ1 => rv.wk = R ∧ 3 ≤ σ1.next ∧ alook σ1.objs 0 = some (rcC ls ss 1 2) ∧ alook σ1.toks 1 = some (lnT ls) ∧ alook σ1.toks 2 = some (lnT ss))) :
    ASys Try.prog g (.ptr c 0 :: args) R [(c, rcC ls ss a b, rcC ls ss a b)] [(a, lnT ls, lnT ls), (b, lnT ss, lnT ss)] := by
  refine ASys.mk (args0 := .ptr 0 0 :: args) (zo := [(0, rcC ls ss 1 2, rcC ls ss 1 2)]) (zt := [(1, lnT ls, lnT ls), (2, lnT ss, lnT ss)]) 3 (fun i => if i = 0 then c else if i = 1 then a else b) ?_ ?_ rfl (by omega) ?_ ?_ ?_ ?_ ?_ hR ?_
  · simp [AV.renL, AV.ren, AV.renL_shut _ _ hA]
  · simp only [List.map_cons, List.map_nil, rcC_ren]; rfl
  · intro i h0 h1
    simp [sysIds]
    omega
  · intro i hi
    simp [sysIds] at hi
    omega
  · simp [sysIds]
  · simp only [AV.idsL, AV.ids, AV.idsL_shut _ _ hA]; rfl
  · intro e he
    simp only [List.mem_singleton] at he
    subst he
    exact ⟨rcC_ids _ _ _ _ _ rfl rfl, rcC_ids _ _ _ _ _ rfl rfl⟩
  · refine h.sub (fun rv σ' ⟨h1, h2, h3, h4, h5⟩ => ⟨σ', ASub.refl _, h1, h2, ?_, ?_⟩)
    · intro e he
      simp only [List.mem_singleton] at he
      subst he; exact h3
    · intro e he
      simp only [List.mem_cons, List.not_mem_nil, or_false] at he
      rcases he with rfl | rfl
      · exact h4
      · exact h5
theorem rcheck_sys (ls ss : List (List UInt8)) (hs : ∀ y ∈ ss, y.length = 32) (i : Int) (y : List UInt8) (hy : y.length ≤ 1000000) (c a b : Int) : ASys Try.prog 23 [.ptr c 0, .int .i64 i, bsA y] (.int .i64 (chkN ss i y))
    [(c, rcC ls ss a b, rcC ls ss a b)] [(a, lnT ls, lnT ls), (b, lnT ss, lnT ss)] := by
  refine RkSys.mk (by simp only [AV.shut, AV.shutL, shutL_bvA, Bool.and_self]) (by simp [AV.shut]) ?_
  refine ACalls_body Try.func23 rfl rfl ?_
  simp only [Try.ntmps23, List.length_cons, List.length_nil, Nat.reduceAdd, Nat.reduceSub, List.replicate_succ, List.replicate_zero, List.cons_append, List.nil_append]
  unfold chkN
  by_cases h0 : i < 0
  · rw [if_pos h0]
    refine RunB ?_ trivial trivial trivial trivial trivial trivial trivial trivial trivial trivial trivial trivial
    exact ⟨rfl, by show (3 : Int) ≤ 3; omega, rfl, rfl, rfl⟩
  rw [if_neg h0]
  by_cases h1 : (ss.length : Int) ≤ i
  · rw [if_pos h1]
    refine RunB ?_ trivial trivial trivial trivial trivial trivial trivial trivial trivial trivial trivial trivial
    exact ⟨rfl, by show (3 : Int) ≤ 3; omega, rfl, rfl, rfl⟩
  rw [if_neg h1]
  obtain ⟨k, rfl⟩ := Int.eq_ofNat_of_zero_le (show 0 ≤ i by omega)
  have hlt : k < ss.length := by omega
  obtain ⟨z, hz⟩ : ∃ z, ss[k]? = some z := ⟨_, List.getElem?_eq_getElem hlt⟩
  have hz32 := hs z (List.mem_of_getElem? hz)
  have hc : (ss.map bsA)[k]? = some (bsA z) := by rw [List.getElem?_map, hz]; rfl
  rw [Int.toNat_natCast, List.getD_eq_getElem?_getD, hz, Option.getD_some]
  by_cases he : z = y
  · rw [if_pos he]
    subst he
    refine RunB ?_ trivial trivial trivial trivial trivial trivial trivial trivial trivial trivial trivial trivial
    exact ⟨rfl, by show (3 : Int) ≤ 3; omega, rfl, rfl, rfl⟩
  · rw [if_neg he]
    refine RunB ?_ trivial trivial trivial trivial trivial trivial trivial trivial trivial trivial trivial trivial
    exact ⟨rfl, by show (3 : Int) ≤ 3; omega, rfl, rfl, rfl⟩
end Go.Proofs.Ythpigmkdchnnoaa
