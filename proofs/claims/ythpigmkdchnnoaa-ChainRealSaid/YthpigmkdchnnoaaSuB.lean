/- suite: once, Sum, of a suite of signs. -/
import Derived.Test.YthpigmkdchnnoaaSuA
namespace Go.Proofs.Ythpigmkdchnnoaa
open Go.RowKit
set_option linter.unusedVariables false
set_option linter.unusedSimpArgs false
set_option maxRecDepth 10000
/-- A thing of which a suite of signs keeps a list. -/
structure Th where
  sort : UInt8
  key : List UInt8
  nonce : List UInt8
  text : List UInt8
  other : List UInt8
deriving DecidableEq
def thA (t : Th) : List AV := [.int .u8 (t.sort.toNat : Int), .str t.key, .str t.nonce, .str t.text, .str t.other]
def thCs : List Th → List AV
  | [] => []
  | t :: r => thA t ++ thCs r
theorem thCs_snoc : ∀ (a : List Th) (t : Th), thCs (a ++ [t]) = thCs a ++ thA t
  | [], t => by simp [thCs]
  | x :: a, t => by simp only [List.cons_append, thCs, thCs_snoc a t, List.append_assoc]
theorem thCs_len : ∀ a : List Th, (thCs a).length = a.length * 5
  | [] => rfl
  | x :: a => by simp only [thCs, List.length_append, thCs_len a, thA, List.length_cons, List.length_nil]; omega
theorem thCs_shut : ∀ a : List Th, AV.shutL (thCs a) = true
  | [] => rfl
  | x :: a => by simp only [thCs]; exact shutL_append _ _ (by simp [thA, AV.shutL, AV.shut]) (thCs_shut a)
theorem thA_inj {a b : Th} (h : thA a = thA b) : a = b := by
  cases a; cases b
  simp only [thA, List.cons.injEq, AV.int.injEq, AV.str.injEq, true_and, and_true, Int.natCast_inj, UInt8.toNat_inj] at h
  simp [h]
abbrev thSh : KSh := .row [.int .u8, .str, .str, .str, .str]
theorem thA_fit (t : Th) : thSh.fit (.agg (thA t)) = true := by
  have := UInt8.toNat_lt t.sort
  have hw : (Lit.int .u8 (t.sort.toNat : Int)).wf = true := by
    simp only [Lit.wf, Bool.and_eq_true, decide_eq_true_eq]
    exact ⟨(show IntKind.min .u8 = 0 by rfl) ▸ by omega, (show IntKind.max .u8 = 255 by rfl) ▸ by omega⟩
  simp only [KSh.fit, thA, KTy.fits, KTy.fit, hw, decide_true, Bool.and_self]
def knA (kn : List (Th × Nat)) : List (AV × AV) := kn.map fun p => (.agg (thA p.1), .int .i64 (p.2 : Int))
theorem knA_in {kn : List (Th × Nat)} {t : Th} {n : Nat} (h : (t, n) ∈ kn) : (AV.agg (thA t), AV.int .i64 (n : Int)) ∈ knA kn := List.mem_map.2 ⟨_, h, rfl⟩
theorem knA_out {kn : List (Th × Nat)} {t : Th} (h : ∀ p ∈ kn, p.1 ≠ t) : ∀ p ∈ knA kn, p.1 ≠ AV.agg (thA t) := by
  intro p hp
  obtain ⟨q, hq, rfl⟩ := List.mem_map.1 hp
  simp only [ne_eq, AV.agg.injEq]
  exact fun he => h q hq (thA_inj he)
/-- A suite of signs: its list is the buffer l, what it knows the map m. -/
def suC (ts : List Th) (l m : Int) : List AV := [.bool false, .nils, .int .i64 0, .sl (.tok l ts.length 5) (thCs ts) ts.length, .map m]
theorem suC_ren (f : Int → Int) (ts : List Th) (l m : Int) : AV.renL f (suC ts l m) = suC ts (f l) (f m) := by
  simp only [suC, AV.renL, AV.ren, AOwn.ren, AV.renL_shut _ _ (thCs_shut ts)]
theorem suC_ids (k : Int) (ts : List Th) (l m : Int) (hl : inK k l = true) (hm : inK k m = true) : AV.idsL (inK k) (suC ts l m) = true := by
  simp only [suC, AV.idsL, AV.ids, AOwn.ids, AV.idsL_shut _ _ (thCs_shut ts), hl, hm, Bool.and_self]
/-- A system of a suite: small numbers stand for all. -/
theorem SuSys.mk {g : FuncId} {args : List AV} {R : AV} {ts ts' : List Th} {q q' : Tq} {s l m : Int} (hA : AV.shutL args = true) (hR : R.shut = true)
    (h : ACalls Try.prog g (.ptr 0 0 :: args) ⟨[(0, suC ts 1 2)], [(1, .top ts.length), (2, q)], 3⟩ (fun rv σ1 => rv.wk = R ∧ 3 ≤ σ1.next ∧ alook σ1.objs 0 = some (suC ts' 1 2) ∧ alook σ1.toks 1 = some (.top ts'.length) ∧ alook σ1.toks 2 = some q')) :
    ASys Try.prog g (.ptr s 0 :: args) R [(s, suC ts l m, suC ts' l m)] [(l, .top ts.length, .top ts'.length), (m, q, q')] := by
  refine ASys.mk (args0 := .ptr 0 0 :: args) (zo := [(0, suC ts 1 2, suC ts' 1 2)]) (zt := [(1, .top ts.length, .top ts'.length), (2, q, q')]) 3 (fun i => if i = 0 then s else if i = 1 then l else m) ?_ ?_ rfl (by omega) ?_ ?_ ?_ ?_ ?_ hR ?_
  · simp [AV.renL, AV.ren, AV.renL_shut _ _ hA]
  · simp only [List.map_cons, List.map_nil, suC_ren]; rfl
  · intro i h0 h1
    simp [sysIds]
    omega
  · intro i hi
    simp [sysIds] at hi
    omega
  · simp [sysIds]
  · simp only [AV.idsL, AV.ids, AV.idsL_shut _ _ hA]; rfl
  · intro e he
    simp only [List.mem_singleton] at he
    subst he
    exact ⟨suC_ids _ _ _ _ rfl rfl, suC_ids _ _ _ _ rfl rfl⟩
  · refine h.sub (fun rv σ' ⟨h1, h2, h3, h4, h5⟩ => ⟨σ', ASub.refl _, h1, h2, ?_, ?_⟩)
    · intro e he
      simp only [List.mem_singleton] at he
      subst he; exact h3
    · intro e he
      simp only [List.mem_cons, List.not_mem_nil, or_false] at he
      rcases he with rfl | rfl
      · exact h4
      · exact h5
theorem once_old (t : Th) (n : Nat) (ts : List Th) (kn : List (Th × Nat)) (hk : (t, n) ∈ kn) (s l m : Int) : ASys Try.prog 37 [.ptr s 0, .agg (thA t)] (.int .i64 (n : Int)) [(s, suC ts l m, suC ts l m)] [(l, .top ts.length, .top ts.length), (m, .mp thSh (knA kn), .mp thSh (knA kn))] := by
  refine SuSys.mk (by simp [AV.shutL, AV.shut, thA]) (by simp [AV.shut]) ?_
  refine ACalls_body Try.func37 rfl rfl ?_
  simp only [Try.ntmps37, List.length_cons, List.length_nil, Nat.reduceAdd, Nat.reduceSub, List.replicate_succ, List.replicate_zero, List.cons_append, List.nil_append]
  have h1 := knA_in hk
  have h2 := thA_fit t
  unfold suC
  unfold thA at h1 h2 ⊢
  refine Run ?_ trivial trivial trivial trivial trivial trivial trivial trivial trivial trivial trivial trivial
  exact ⟨rfl, by show (3 : Int) ≤ 4; omega, rfl, rfl, rfl⟩
theorem once_new (t : Th) (ts : List Th) (kn : List (Th × Nat)) (hk : ∀ p ∈ kn, p.1 ≠ t) (hn : ts.length ≤ 1000000) (s l m : Int) : ASys Try.prog 37 [.ptr s 0, .agg (thA t)] (.int .i64 ((ts.length + 1 : Nat) : Int)) [(s, suC ts l m, suC (ts ++ [t]) l m)] [(l, .top ts.length, .top (ts ++ [t]).length), (m, .mp thSh (knA kn), .mp thSh (knA (kn ++ [(t, ts.length + 1)])))] := by
  refine SuSys.mk (by simp [AV.shutL, AV.shut, thA]) (by simp [AV.shut]) ?_
  refine ACalls_body Try.func37 rfl rfl ?_
  simp only [Try.ntmps37, List.length_cons, List.length_nil, Nat.reduceAdd, Nat.reduceSub, List.replicate_succ, List.replicate_zero, List.cons_append, List.nil_append]
  have h1 := knA_out hk
  have h2 := thA_fit t
  have h3 : knA (kn ++ [(t, ts.length + 1)]) = knA kn ++ [(.agg (thA t), .int .i64 ((ts.length + 1 : Nat) : Int))] := by simp [knA]
  have h4 := thCs_snoc ts t
  have h5 := thCs_len ts
  unfold suC
  rw [h3, h4, List.length_append]
  simp only [List.length_cons, List.length_nil, Nat.zero_add]
  unfold thA at h1 h2 ⊢
  refine Run ?_ trivial trivial (⟨Try.func49, rfl, rfl⟩ : Inl Try.prog 49 _ _ _) trivial trivial trivial trivial trivial trivial trivial trivial trivial
  exact ⟨rfl, by show (3 : Int) ≤ 5; omega, rfl, rfl, rfl⟩
/-! ### Sums of parts -/
def sumT (x : List UInt8) : Th := ⟨72, [], [], x, []⟩
theorem sumT_inj {a b : List UInt8} (h : sumT a = sumT b) : a = b := by simpa [sumT] using h
def sumK (xs : List (List UInt8)) : List (Th × Nat) := xs.zipIdx.map fun p => (sumT p.1, p.2 + 1)
theorem sumK_snoc (xs : List (List UInt8)) (x : List UInt8) : sumK (xs ++ [x]) = sumK xs ++ [(sumT x, xs.length + 1)] := by
  simp [sumK, List.zipIdx_append]
theorem sumK_in {xs : List (List UInt8)} {x : List UInt8} (h : x ∈ xs) : (sumT x, xs.idxOf x + 1) ∈ sumK xs := by
  refine List.mem_map.2 ⟨(x, xs.idxOf x), ?_, rfl⟩
  rw [List.mk_mem_zipIdx_iff_getElem?]
  have hlt := List.idxOf_lt_length_of_mem h
  rw [List.getElem?_eq_getElem hlt]
  congr 1
  exact List.getElem_idxOf hlt
theorem sumK_out {xs : List (List UInt8)} {x : List UInt8} (h : x ∉ xs) : ∀ p ∈ sumK xs, p.1 ≠ sumT x := by
  intro p hp
  obtain ⟨q, hq, rfl⟩ := List.mem_map.1 hp
  have := List.mk_mem_zipIdx_iff_getElem?.1 hq
  intro he
  exact h (sumT_inj he ▸ List.mem_of_getElem? this)
/-- The number of a text among those that were summed, and these behind it. -/
def sumN (xs : List (List UInt8)) (x : List UInt8) : Nat := xs.idxOf x + 1
def sumX (xs : List (List UInt8)) (x : List UInt8) : List (List UInt8) := if x ∈ xs then xs else xs ++ [x]
/-- A suite that summed these texts. -/
def suX (xs : List (List UInt8)) (l m : Int) : List AV := suC (xs.map sumT) l m
abbrev suL (xs : List (List UInt8)) : Tq := .top (xs.map sumT).length
abbrev suM (xs : List (List UInt8)) : Tq := .mp thSh (knA (sumK xs))
theorem once_sum (x : List UInt8) (xs : List (List UInt8)) (hn : xs.length ≤ 1000000) (s l m : Int) : ASys Try.prog 37 [.ptr s 0, .agg [.int .u8 72, .str [], .str [], .str x, .str []]] (.int .i64 (sumN xs x : Int)) [(s, suX xs l m, suX (sumX xs x) l m)] [(l, suL xs, suL (sumX xs x)), (m, suM xs, suM (sumX xs x))] := by
  unfold sumX sumN
  by_cases h : x ∈ xs
  · rw [if_pos h]
    exact once_old (sumT x) _ _ _ (sumK_in h) s l m
  · rw [if_neg h]
    have := once_new (sumT x) (xs.map sumT) _ (sumK_out h) (by simpa using hn) s l m
    rw [show xs.idxOf x = xs.length from List.idxOf_eq_length h]
    unfold suX suL suM
    rw [sumK_snoc, List.map_append]
    rw [List.length_map] at this
    simp only [List.length_map, List.map_cons, List.map_nil] at this ⊢
    exact this
theorem sum_sys (ls : List (List UInt8)) (x : List UInt8) (hx : ls.flatten = x) (xs : List (List UInt8)) (hn : xs.length ≤ 1000000) (h1 : ls.length ≤ 1000) (h2 : ∀ l ∈ ls, l.length ≤ 1000000) (s l m : Int) : ASys Try.prog 26 [.ptr s 0, lkA ls] (bsA (signB 72 (sumN xs x))) [(s, suX xs l m, suX (sumX xs x) l m)] [(l, suL xs, suL (sumX xs x)), (m, suM xs, suM (sumX xs x))] := by
  refine SuSys.mk (by simp only [AV.shutL, lkA_shut, Bool.and_self]) (bsA_shut _) ?_
  refine ACalls_body Try.func26 rfl rfl ?_
  simp only [Try.ntmps26, List.length_cons, List.length_nil, Nat.reduceAdd, Nat.reduceSub, List.replicate_succ, List.replicate_zero, List.cons_append, List.nil_append]
  have hN : sumN xs x ≤ 1000000000000000 := by unfold sumN; have := List.idxOf_le_length (a := x) (l := xs); omega
  have e1 := joined_val ls h1 h2
  rw [hx] at e1
  have e2 := once_sum x xs hn 0 1 2
  have e3 := signed_val 72 (sumN xs x) hN
  rw [show bvA 72 = .int .u8 72 from rfl] at e3
  refine Run ?_ trivial trivial trivial trivial trivial trivial trivial trivial trivial trivial trivial trivial
  refine ⟨?_, by show (3 : Int) ≤ 3; omega, rfl, rfl, rfl⟩
  rw [aone]
  unfold AV.wk
  rw [AV.wkL_bvA]
  rfl
end Go.Proofs.Ythpigmkdchnnoaa
