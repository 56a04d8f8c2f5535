/- SHA-256's sums as the abstract machine sees them; chain over a real suite. -/
import Derived.Test.YthpigmkdchnnoaaChA
import Derived.Test.YthpigmkdchnnoaaRefI
namespace Go.Proofs.Ythpigmkdchnnoaa
open Go.RowKit
set_option linter.unusedVariables false
set_option linter.unusedSimpArgs false
set_option maxRecDepth 10000
section
variable {M : MM} {w : World}
theorem parts_of {ls : List (List UInt8)} {vs : List Value} (hr : RepsL M w (ls.map bsA) vs) : Parts w vs ls := by
  have hl := hr.length
  rw [List.length_map] at hl
  refine ⟨hl, fun k v b hv hb => ?_⟩
  have hk : (ls.map bsA)[k]? = some (bsA b) := by rw [List.getElem?_map, hb]; rfl
  obtain ⟨u, h1, h2⟩ := hr.get k _ hk
  rw [hv] at h1; cases h1
  obtain ⟨A, c, h3, h4⟩ := h2.rd rfl
  exact ⟨A, _, c, h3, h4⟩
end
theorem sumA_val (ls : List (List UInt8)) (x : List UInt8) (hx : ls.flatten = x) (hm : x.length ≤ 1000000) : AVal Try.prog 35 [lkA ls] (bsA (sumB x)) := by
  subst hx
  rw [← bsA_eq (sumB_length _)]
  refine AVal.of_seg fun M w vs hr => ?_
  obtain ⟨v, rfl, h1⟩ := hr.inv1
  unfold Reps at h1
  obtain ⟨A, c, us, rfl, g1, g2, g3, g4, g5, _⟩ := h1
  exact sum_any A _ c us ls w ⟨by rw [g5.length, List.length_map, Nat.mul_one], g1, g2, g3, g4.imp id fun ⟨b, o, hA, hm⟩ => ⟨b, o, hA, fun j u hu => (hm j u hu).1⟩⟩ (parts_of g5) (by omega)
theorem rsumA_val (x : List UInt8) (hm : x.length ≤ 1000000) : AVal Try.prog 19 [bsA x] (bsA (sumB x)) := by
  rw [← bsA_eq (sumB_length _)]
  refine AVal.of_seg fun M w vs hr => ?_
  obtain ⟨v, rfl, h1⟩ := hr.inv1
  obtain ⟨A, c, rfl, hrd⟩ := h1.rd rfl
  exact rsum_any A _ c x w hrd hm
/-- A real suite. -/
def srC : List AV := [.bool true, .sl .none [] 0, .int .i64 0, .sl .none [] 0, .nilm]
theorem srC_ren (f : Int → Int) : AV.renL f srC = srC := rfl
theorem srC_ids (k : Int) : AV.idsL (inK k) srC = true := rfl
theorem sumR_sys (ls : List (List UInt8)) (x : List UInt8) (hx : ls.flatten = x) (hm : x.length ≤ 1000000) (s : Int) : ASys Try.prog 26 [.ptr s 0, lkA ls] (bsA (sumB x)) [(s, srC, srC)] [] := by
  refine ASys.mk (args0 := [.ptr 0 0, lkA ls]) (zo := [(0, srC, srC)]) (zt := []) 1 (fun _ => s) ?_ rfl rfl (by omega) ?_ ?_ ?_ ?_ ?_ (by simp only [AV.shut, shutL_bvA]) ?_
  · simp only [AV.renL, AV.ren, AOwn.ren, AV.renL_shut _ _ (bsAs_shut ls)]
  · intro i h0 h1
    simp [sysIds]
    omega
  · intro i hi
    simp [sysIds] at hi
    omega
  · simp [sysIds]
  · simp only [AV.idsL, AV.ids, AOwn.ids, AV.idsL_shut _ _ (bsAs_shut ls)]; rfl
  · intro e he
    simp only [List.mem_singleton] at he
    subst he
    exact ⟨rfl, rfl⟩
  · simp only [List.map_cons, List.map_nil]
    refine ACalls_body Try.func26 rfl rfl ?_
    simp only [Try.ntmps26, List.length_cons, List.length_nil, Nat.reduceAdd, Nat.reduceSub, List.replicate_succ, List.replicate_zero, List.cons_append, List.nil_append]
    have e1 := sumA_val ls x hx hm
    refine Run ?_ trivial trivial trivial trivial trivial trivial trivial trivial trivial trivial trivial trivial
    refine ⟨?_, by show (1 : Int) ≤ 1; omega, ?_, fun e he => by cases he⟩
    · rw [aone]
      unfold AV.wk
      rw [AV.wkL_bvA]
    · intro e he
      simp only [List.mem_singleton] at he
      subst he
      rfl
theorem RlSys.mk {g : FuncId} {args : List AV} {R : AV} {ls ss ls' ss' : List (List UInt8)} {c s a b : Int} (hA : AV.shutL args = true) (hR : R.shut = true)
    (h : ACalls Try.prog g (.ptr 0 0 :: args) ⟨[(0, chC ls ss 1 2 3), (1, srC)], [(2, lnT ls), (3, lnT ss)], 4⟩ (fun rv σ1 => rv.wk = R ∧ 4 ≤ σ1.next ∧ alook σ1.objs 0 = some (chC ls' ss' 1 2 3) ∧ alook σ1.objs 1 = some srC ∧ alook σ1.toks 2 = some (lnT ls') ∧ alook σ1.toks 3 = some (lnT ss'))) :
    ASys Try.prog g (.ptr c 0 :: args) R [(c, chC ls ss s a b, chC ls' ss' s a b), (s, srC, srC)] [(a, lnT ls, lnT ls'), (b, lnT ss, lnT ss')] := by
  refine ASys.mk (args0 := .ptr 0 0 :: args) (zo := [(0, chC ls ss 1 2 3, chC ls' ss' 1 2 3), (1, srC, srC)]) (zt := [(2, lnT ls, lnT ls'), (3, lnT ss, lnT ss')]) 4 (fun i => if i = 0 then c else if i = 1 then s else if i = 2 then a else b) ?_ ?_ rfl (by omega) ?_ ?_ ?_ ?_ ?_ hR ?_
  · simp [AV.renL, AV.ren, AV.renL_shut _ _ hA]
  · simp only [List.map_cons, List.map_nil, chC_ren]; rfl
  · intro i h0 h1
    simp [sysIds]
    omega
  · intro i hi
    simp [sysIds] at hi
    omega
  · simp [sysIds]
  · simp only [AV.idsL, AV.ids, AV.idsL_shut _ _ hA]; rfl
  · intro e he
    simp only [List.mem_cons, List.not_mem_nil, or_false] at he
    rcases he with rfl | rfl
    · exact ⟨chC_ids _ _ _ _ _ _ rfl rfl rfl, chC_ids _ _ _ _ _ _ rfl rfl rfl⟩
    · exact ⟨rfl, rfl⟩
  · refine h.sub (fun rv σ' ⟨h1, h2, h3, h4, h5, h6⟩ => ⟨σ', ASub.refl _, h1, h2, ?_, ?_⟩)
    · intro e he
      simp only [List.mem_cons, List.not_mem_nil, or_false] at he
      rcases he with rfl | rfl
      · exact h3
      · exact h4
    · intro e he
      simp only [List.mem_cons, List.not_mem_nil, or_false] at he
      rcases he with rfl | rfl
      · exact h5
      · exact h6
theorem headR_sys (ls ss : List (List UInt8)) (hl : ss.length = ls.length + 1) (hs : ∀ y ∈ ss, y.length = 32) (c s a b : Int) : ASys Try.prog 13 [.ptr c 0] (hdA (ls.length : Int) (ss.getD ls.length []))
    [(c, chC ls ss s a b, chC ls ss s a b), (s, srC, srC)] [(a, lnT ls, lnT ls), (b, lnT ss, lnT ss)] := by
  refine RlSys.mk (by simp [AV.shutL]) (by simp only [AV.shut, AV.shutL, shutL_bvA, Bool.and_self]) ?_
  refine ACalls_body Try.func13 rfl rfl ?_
  simp only [Try.ntmps13, List.length_cons, List.length_nil, Nat.reduceAdd, Nat.reduceSub, List.replicate_succ, List.replicate_zero, List.cons_append, List.nil_append]
  obtain ⟨y, hy⟩ : ∃ y, ss[ls.length]? = some y := ⟨_, List.getElem?_eq_getElem (by omega)⟩
  have hy32 := hs y (List.mem_of_getElem? hy)
  have hc : (ss.map bsA)[ls.length]? = some (bsA y) := by rw [List.getElem?_map, hy]; rfl
  have e2 := clone1_val y (by omega) (by omega)
  rw [List.getD_eq_getElem?_getD, hy, Option.getD_some]
  refine Run ?_ trivial trivial (⟨Try.func14, rfl, rfl⟩ : Inl Try.prog 14 _ _ _) (⟨Try.func16, rfl, rfl⟩ : Inl Try.prog 16 _ _ _) trivial trivial trivial trivial trivial trivial trivial trivial
  refine ⟨?_, by show (4 : Int) ≤ 7; omega, rfl, rfl, rfl, rfl⟩
  simp only [aone, AV.wk, AV.wkL, AV.wkL_bvA]
end Go.Proofs.Ythpigmkdchnnoaa
