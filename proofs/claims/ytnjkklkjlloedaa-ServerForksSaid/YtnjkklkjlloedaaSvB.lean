/- server: its logs; Log, push, by the abstract machine. -/
import Derived.Test.YtnjkklkjlloedaaSvA
namespace Go.Proofs.Ytnjkklkjlloedaa
open Go.RowKit
set_option linter.unusedVariables false
set_option linter.unusedSimpArgs false
set_option maxRecDepth 10000
abbrev svSh : KSh := .row [.int .i64, .int .i64]
abbrev Lg := List ((Int × Int) × List (List UInt8))
def I64 (n : Int) : Prop := -9223372036854775808 ≤ n ∧ n ≤ 9223372036854775807
theorem svK_fit {b c : Int} (hb : I64 b) (hc : I64 c) : svSh.fit (.agg [.int .i64 b, .int .i64 c]) = true := by
  have h1 : (Lit.int .i64 b).wf = true := by
    simp only [Lit.wf, Bool.and_eq_true, decide_eq_true_eq]
    exact ⟨(show IntKind.min .i64 = -9223372036854775808 by rfl) ▸ hb.1, (show IntKind.max .i64 = 9223372036854775807 by rfl) ▸ hb.2⟩
  have h2 : (Lit.int .i64 c).wf = true := by
    simp only [Lit.wf, Bool.and_eq_true, decide_eq_true_eq]
    exact ⟨(show IntKind.min .i64 = -9223372036854775808 by rfl) ▸ hc.1, (show IntKind.max .i64 = 9223372036854775807 by rfl) ▸ hc.2⟩
  simp only [KSh.fit, KTy.fits, KTy.fit, h1, h2, decide_true, Bool.and_self]
/-- The map's entries. -/
def svA (L : Lg) : List (AV × AV) := L.map fun e => (.agg [.int .i64 e.1.1, .int .i64 e.1.2], lkA e.2)
def getL : Lg → Int × Int → List (List UInt8)
  | [], _ => []
  | e :: r, k => if e.1 = k then e.2 else getL r k
def setL : Lg → Int × Int → List (List UInt8) → Lg
  | [], k, v => [(k, v)]
  | e :: r, k, v => if e.1 = k then (k, v) :: r else e :: setL r k v
theorem getL_set (L : Lg) (k : Int × Int) (v : List (List UInt8)) (q : Int × Int) : getL (setL L k v) q = if q = k then v else getL L q := by
  induction L with
  | nil =>
    simp only [setL, getL]
    by_cases h : k = q
    · rw [if_pos h, if_pos h.symm]
    · rw [if_neg h, if_neg (Ne.symm h)]
  | cons e r ih =>
    simp only [setL]
    by_cases h : e.1 = k
    · rw [if_pos h]
      simp only [getL]
      by_cases h2 : k = q
      · rw [if_pos h2, if_pos h2.symm]
      · rw [if_neg h2, if_neg (Ne.symm h2), h, if_neg h2]
    · rw [if_neg h]
      simp only [getL]
      by_cases h2 : e.1 = q
      · rw [if_pos h2, if_pos h2]
        rw [if_neg (fun h3 => h (h2.trans h3))]
      · rw [if_neg h2, if_neg h2, ih]
/-- A key is there, at its first place, or not. -/
theorem getL_cases (L : Lg) (k : Int × Int) : ((∀ e ∈ L, e.1 ≠ k) ∧ getL L k = [] ∧ ∀ v, setL L k v = L ++ [(k, v)]) ∨ ∃ l1 w l2, L = l1 ++ (k, w) :: l2 ∧ getL L k = w ∧ ∀ v, setL L k v = l1 ++ (k, v) :: l2 := by
  induction L with
  | nil => exact .inl ⟨fun e he => (List.not_mem_nil he).elim, rfl, fun v => rfl⟩
  | cons e r ih =>
    by_cases h : e.1 = k
    · refine .inr ⟨[], e.2, r, ?_, by simp only [getL, if_pos h], fun v => by simp only [setL, if_pos h, List.nil_append]⟩
      rw [List.nil_append, ← h]
    · rcases ih with ⟨h1, h2, h3⟩ | ⟨l1, w, l2, h1, h2, h3⟩
      · refine .inl ⟨fun e' he => ?_, by simp only [getL, if_neg h, h2], fun v => by simp only [setL, if_neg h, h3, List.cons_append]⟩
        rcases List.mem_cons.1 he with rfl | he
        · exact h
        · exact h1 e' he
      · exact .inr ⟨e :: l1, w, l2, by rw [h1, List.cons_append], by simp only [getL, if_neg h, h2], fun v => by simp only [setL, if_neg h, h3, List.cons_append]⟩
theorem svA_out {L : Lg} {b c : Int} (h : ∀ e ∈ L, e.1 ≠ (b, c)) : ∀ p ∈ svA L, p.1 ≠ AV.agg [.int .i64 b, .int .i64 c] := by
  intro p hp he
  obtain ⟨e, h1, rfl⟩ := List.mem_map.1 hp
  simp only [AV.agg.injEq, List.cons.injEq, AV.int.injEq, true_and, and_true] at he
  exact h e h1 (Prod.ext he.1 he.2)
theorem svA_in {L : Lg} {k : Int × Int} {w : List (List UInt8)} (h : (k, w) ∈ L) : (AV.agg [.int .i64 k.1, .int .i64 k.2], lkA w) ∈ svA L := List.mem_map.2 ⟨_, h, rfl⟩
theorem svA_split {l1 l2 : Lg} {b c : Int} {w : List (List UInt8)} : svA (l1 ++ ((b, c), w) :: l2) = svA l1 ++ (.agg [.int .i64 b, .int .i64 c], lkA w) :: svA l2 := by simp [svA]
theorem svA_snoc {L : Lg} {b c : Int} {w : List (List UInt8)} : svA (L ++ [((b, c), w)]) = svA L ++ [(.agg [.int .i64 b, .int .i64 c], lkA w)] := by simp [svA]
/-- What a server's logs keep. -/
structure LgOk (L : Lg) : Prop where
  links : ∀ k, LksOk (getL L k)
  most : ∀ k, (getL L k).length ≤ 64
abbrev mpT (L : Lg) : Tq := .mp svSh (svA L)
theorem SvSys.mk {g : FuncId} {args : List AV} {R : AV} {L L' : Lg} {s m : Int} (hA : AV.shutL args = true) (hR : R.shut = true)
    (h : ACalls Try.prog g (.ptr 0 0 :: args) ⟨[(0, [.map 1])], [(1, mpT L)], 2⟩ (fun rv σ1 => rv.wk = R ∧ 2 ≤ σ1.next ∧ alook σ1.objs 0 = some [.map 1] ∧ alook σ1.toks 1 = some (mpT L'))) :
    ASys Try.prog g (.ptr s 0 :: args) R [(s, [.map m], [.map m])] [(m, mpT L, mpT L')] := by
  refine ASys.mk (args0 := .ptr 0 0 :: args) (zo := [(0, [.map 1], [.map 1])]) (zt := [(1, mpT L, mpT L')]) 2 (fun i => if i = 0 then s else m) ?_ rfl rfl (by omega) ?_ ?_ ?_ ?_ ?_ hR ?_
  · simp [AV.renL, AV.ren, AV.renL_shut _ _ hA]
  · intro i h0 h1
    simp [sysIds]
    omega
  · intro i hi
    simp [sysIds] at hi
    omega
  · simp [sysIds]
  · simp only [AV.idsL, AV.ids, AV.idsL_shut _ _ hA]; rfl
  · intro e he
    simp only [List.mem_singleton] at he
    subst he
    exact ⟨rfl, rfl⟩
  · refine h.sub (fun rv σ' ⟨h1, h2, h3, h4⟩ => ⟨σ', ASub.refl _, h1, h2, ?_, ?_⟩)
    · intro e he
      simp only [List.mem_singleton] at he
      subst he; exact h3
    · intro e he
      simp only [List.mem_singleton] at he
      subst he; exact h4
theorem log_sys (L : Lg) (h : LgOk L) (b c : Int) (hb : I64 b) (hc : I64 c) (s m : Int) : ASys Try.prog 21 [.ptr s 0, .int .i64 b, .int .i64 c] (lkA (getL L (b, c))) [(s, [.map m], [.map m])] [(m, mpT L, mpT L)] := by
  refine SvSys.mk (by simp [AV.shutL, AV.shut]) (lkA_shut _) ?_
  refine ACalls_body Try.func21 rfl rfl ?_
  simp only [Try.ntmps21, List.length_cons, List.length_nil, Nat.reduceAdd, Nat.reduceSub, List.replicate_succ, List.replicate_zero, List.cons_append, List.nil_append]
  have hk := svK_fit hb hc
  have hl := h.links (b, c)
  have hm := h.most (b, c)
  rcases getL_cases L (b, c) with ⟨h1, h2, _⟩ | ⟨l1, w, l2, h1, h2, _⟩
  · have h3 := svA_out h1
    have e1 : AVal Try.prog 53 [.sl .none [] 0] (lkA []) := copied_val [] (fun b hb => by cases hb) (by simp)
    rw [h2]
    refine Run ?_ trivial trivial trivial trivial trivial trivial trivial trivial trivial trivial trivial trivial
    exact ⟨rfl, by show (2 : Int) ≤ 2; omega, rfl, rfl⟩
  · have h3 : (AV.agg [.int .i64 b, .int .i64 c], lkA w) ∈ svA L := svA_in (k := (b, c)) (by rw [h1]; simp)
    rw [h2] at hl hm ⊢
    have e1 := copied_val w hl (by omega)
    refine Run ?_ trivial trivial trivial trivial trivial trivial trivial trivial trivial trivial trivial trivial
    refine ⟨?_, by show (2 : Int) ≤ 2; omega, rfl, rfl⟩
    rw [aone]
    unfold AV.wk
    rw [bsAs_wk]
def addL (lg : List (List UInt8)) (b : List UInt8) : List (List UInt8) := if b ∈ lg then lg else lg ++ [b]
def addAll (lg : List (List UInt8)) : List (List UInt8) → List (List UInt8)
  | [] => lg
  | b :: r => addAll (addL lg b) r
theorem addAll_snoc : ∀ (r lg : List (List UInt8)) (b : List UInt8), addAll lg (r ++ [b]) = addL (addAll lg r) b
  | [], lg, b => rfl
  | x :: r, lg, b => by simp only [List.cons_append, addAll]; exact addAll_snoc r _ b
theorem addL_le (lg : List (List UInt8)) (b : List UInt8) : (addL lg b).length ≤ lg.length + 1 := by unfold addL; split <;> simp
theorem addAll_le : ∀ (r lg : List (List UInt8)), (addAll lg r).length ≤ lg.length + r.length
  | [], lg => by simp [addAll]
  | x :: r, lg => by
    have h1 := addAll_le r (addL lg x)
    have h2 := addL_le lg x
    simp only [addAll, List.length_cons]
    omega
/-- What a push makes of the logs. -/
def pushE (L : Lg) (k : Int × Int) (ls : List (List UInt8)) : Int := if 64 < (addAll (getL L k) ls).length then 33 else 0
def pushL (L : Lg) (k : Int × Int) (ls : List (List UInt8)) : Lg := if 64 < (addAll (getL L k) ls).length then L else setL L k (addAll (getL L k) ls)
end Go.Proofs.Ytnjkklkjlloedaa
