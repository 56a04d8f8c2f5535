/- chain: its methods, by the abstract machine. -/
import Derived.Test.YthpigmkdchnnoaaSuB
import Derived.Test.YthpigmkdchnnoaaEqV
import Derived.Test.YthpigmkdchnnoaaRunB
namespace Go.Proofs.Ythpigmkdchnnoaa
open Go.RowKit
set_option linter.unusedVariables false
set_option linter.unusedSimpArgs false
set_option maxRecDepth 10000
theorem bsAs_ids (k : Int) (ls : List (List UInt8)) : AV.idsL (inK k) (ls.map bsA) = true := AV.idsL_shut _ _ (bsAs_shut ls)
/-- A chain: its links, its sums; its suite, and its buffers. -/
def chC (ls ss : List (List UInt8)) (s a b : Int) : List AV := [.ptr s 0, .sl (.tok a ls.length 1) (ls.map bsA) ls.length, .sl (.tok b ss.length 1) (ss.map bsA) ss.length]
theorem chC_ren (f : Int → Int) (ls ss : List (List UInt8)) (s a b : Int) : AV.renL f (chC ls ss s a b) = chC ls ss (f s) (f a) (f b) := by
  simp only [chC, AV.renL, AV.ren, AOwn.ren, AV.renL_shut _ _ (bsAs_shut _)]
theorem chC_ids (k : Int) (ls ss : List (List UInt8)) (s a b : Int) (hs : inK k s = true) (ha : inK k a = true) (hb : inK k b = true) : AV.idsL (inK k) (chC ls ss s a b) = true := by
  simp only [chC, AV.idsL, AV.ids, AOwn.ids, bsAs_ids, hs, ha, hb, Bool.and_self]
theorem suX_ren (f : Int → Int) (xs : List (List UInt8)) (l m : Int) : AV.renL f (suX xs l m) = suX xs (f l) (f m) := suC_ren f _ l m
theorem suX_ids (k : Int) (xs : List (List UInt8)) (l m : Int) (hl : inK k l = true) (hm : inK k m = true) : AV.idsL (inK k) (suX xs l m) = true := suC_ids k _ l m hl hm
abbrev lnT (ls : List (List UInt8)) : Tq := .top ls.length
theorem ChSys.mk {g : FuncId} {args : List AV} {R : AV} {ls ss ls' ss' xs xs' : List (List UInt8)} {c s a b l m : Int} (hA : AV.shutL args = true) (hR : R.shut = true)
    (h : ACalls Try.prog g (.ptr 0 0 :: args) ⟨[(0, chC ls ss 1 2 3), (1, suX xs 4 5)], [(2, lnT ls), (3, lnT ss), (4, suL xs), (5, suM xs)], 6⟩ (fun rv σ1 => rv.wk = R ∧ 6 ≤ σ1.next ∧ alook σ1.objs 0 = some (chC ls' ss' 1 2 3) ∧ alook σ1.objs 1 = some (suX xs' 4 5) ∧ alook σ1.toks 2 = some (lnT ls') ∧ alook σ1.toks 3 = some (lnT ss') ∧ alook σ1.toks 4 = some (suL xs') ∧ alook σ1.toks 5 = some (suM xs'))) :
    ASys Try.prog g (.ptr c 0 :: args) R [(c, chC ls ss s a b, chC ls' ss' s a b), (s, suX xs l m, suX xs' l m)] [(a, lnT ls, lnT ls'), (b, lnT ss, lnT ss'), (l, suL xs, suL xs'), (m, suM xs, suM xs')] := by
  refine ASys.mk (args0 := .ptr 0 0 :: args) (zo := [(0, chC ls ss 1 2 3, chC ls' ss' 1 2 3), (1, suX xs 4 5, suX xs' 4 5)]) (zt := [(2, lnT ls, lnT ls'), (3, lnT ss, lnT ss'), (4, suL xs, suL xs'), (5, suM xs, suM xs')]) 6 (fun i => if i = 0 then c else if i = 1 then s else if i = 2 then a else if i = 3 then b else if i = 4 then l else m) ?_ ?_ rfl (by omega) ?_ ?_ ?_ ?_ ?_ hR ?_
  · simp [AV.renL, AV.ren, AV.renL_shut _ _ hA]
  · simp only [List.map_cons, List.map_nil, suX_ren, chC_ren]; rfl
  · intro i h0 h1
    simp [sysIds]
    omega
  · intro i hi
    simp [sysIds] at hi
    omega
  · simp [sysIds]
  · simp only [AV.idsL, AV.ids, AV.idsL_shut _ _ hA]; rfl
  · intro e he
    simp only [List.mem_cons, List.not_mem_nil, or_false] at he
    rcases he with rfl | rfl
    · exact ⟨chC_ids _ _ _ _ _ _ rfl rfl rfl, chC_ids _ _ _ _ _ _ rfl rfl rfl⟩
    · exact ⟨suX_ids _ _ _ _ rfl rfl, suX_ids _ _ _ _ rfl rfl⟩
  · refine h.sub (fun rv σ' ⟨h1, h2, h3, h4, h5, h6, h7, h8⟩ => ⟨σ', ASub.refl _, h1, h2, ?_, ?_⟩)
    · intro e he
      simp only [List.mem_cons, List.not_mem_nil, or_false] at he
      rcases he with rfl | rfl
      · exact h3
      · exact h4
    · intro e he
      simp only [List.mem_cons, List.not_mem_nil, or_false] at he
      rcases he with rfl | rfl | rfl | rfl
      · exact h5
      · exact h6
      · exact h7
      · exact h8
/-! ### Append -/
def apE (ls : List (List UInt8)) (x : List UInt8) : Int := if x.length < 1 ∨ 4096 < x.length then 11 else if ls.length = 64 then 33 else 0
/-- What is summed. -/
def apT (ls ss : List (List UInt8)) (x : List UInt8) : List UInt8 := ss.getD ls.length [] ++ x
def apL (ls : List (List UInt8)) (x : List UInt8) : List (List UInt8) := if apE ls x = 0 then ls ++ [x] else ls
def apS (ls ss xs : List (List UInt8)) (x : List UInt8) : List (List UInt8) := if apE ls x = 0 then ss ++ [signB 72 (sumN xs (apT ls ss x))] else ss
def apX (ls ss xs : List (List UInt8)) (x : List UInt8) : List (List UInt8) := if apE ls x = 0 then sumX xs (apT ls ss x) else xs
/-- A chain's links and sums. -/
structure ChOk (ls ss xs : List (List UInt8)) : Prop where
  len : ss.length = ls.length + 1
  sums : ∀ y ∈ ss, y.length = 32
  most : ls.length ≤ 64
  texts : ∀ y ∈ ls, 1 ≤ y.length ∧ y.length ≤ 4096
  few : xs.length ≤ 1000000
def chS (ls ss xs ls' ss' xs' : List (List UInt8)) (c s a b l m : Int) : OL := [(c, chC ls ss s a b, chC ls' ss' s a b), (s, suX xs l m, suX xs' l m)]
/-! ### Len, At, Head, Link, Check -/
theorem len_sys (ls ss xs : List (List UInt8)) (c s a b l m : Int) : ASys Try.prog 14 [.ptr c 0] (.int .i64 (ls.length : Int))
    [(c, chC ls ss s a b, chC ls ss s a b), (s, suX xs l m, suX xs l m)] [(a, lnT ls, lnT ls), (b, lnT ss, lnT ss), (l, suL xs, suL xs), (m, suM xs, suM xs)] := by
  refine ChSys.mk (by simp [AV.shutL]) (by simp [AV.shut]) ?_
  refine ACalls_body Try.func14 rfl rfl ?_
  simp only [Try.ntmps14, List.length_cons, List.length_nil, Nat.reduceAdd, Nat.reduceSub, List.replicate_succ, List.replicate_zero, List.cons_append, List.nil_append]
  refine RunB ?_ trivial trivial trivial trivial trivial trivial trivial trivial trivial trivial trivial trivial
  exact ⟨rfl, by show (6 : Int) ≤ 6; omega, rfl, rfl, rfl, rfl, rfl, rfl⟩
/-- A head. -/
abbrev hdA (i : Int) (y : List UInt8) : AV := .agg [.int .i64 i, bsA y]
def atR (ss : List (List UInt8)) (i : Int) : AV := if i < 0 ∨ (ss.length : Int) ≤ i then .tup [hdA 0 [], .bool false] else .tup [hdA i (ss.getD i.toNat []), .bool true]
theorem atR_shut (ss : List (List UInt8)) (i : Int) : (atR ss i).shut = true := by unfold atR; split <;> simp only [AV.shut, AV.shutL, shutL_bvA, Bool.and_self]
theorem at_sys (ls ss xs : List (List UInt8)) (h : ChOk ls ss xs) (i : Int) (c s a b l m : Int) : ASys Try.prog 16 [.ptr c 0, .int .i64 i] (atR ss i)
    [(c, chC ls ss s a b, chC ls ss s a b), (s, suX xs l m, suX xs l m)] [(a, lnT ls, lnT ls), (b, lnT ss, lnT ss), (l, suL xs, suL xs), (m, suM xs, suM xs)] := by
  refine ChSys.mk (by simp [AV.shutL, AV.shut]) (atR_shut _ _) ?_
  refine ACalls_body Try.func16 rfl rfl ?_
  simp only [Try.ntmps16, List.length_cons, List.length_nil, Nat.reduceAdd, Nat.reduceSub, List.replicate_succ, List.replicate_zero, List.cons_append, List.nil_append]
  unfold atR
  by_cases h0 : i < 0
  · rw [if_pos (.inl h0)]
    refine RunB ?_ trivial trivial trivial trivial trivial trivial trivial trivial trivial trivial trivial trivial
    exact ⟨rfl, by show (6 : Int) ≤ 7; omega, rfl, rfl, rfl, rfl, rfl, rfl⟩
  by_cases h1 : (ss.length : Int) ≤ i
  · rw [if_pos (.inr h1)]
    refine RunB ?_ trivial trivial trivial trivial trivial trivial trivial trivial trivial trivial trivial trivial
    exact ⟨rfl, by show (6 : Int) ≤ 7; omega, rfl, rfl, rfl, rfl, rfl, rfl⟩
  rw [if_neg (by omega)]
  obtain ⟨k, rfl⟩ := Int.eq_ofNat_of_zero_le (show 0 ≤ i by omega)
  have hlt : k < ss.length := by omega
  obtain ⟨y, hy⟩ : ∃ y, ss[k]? = some y := ⟨_, List.getElem?_eq_getElem hlt⟩
  have hy32 := h.sums y (List.mem_of_getElem? hy)
  have hc : (ss.map bsA)[k]? = some (bsA y) := by rw [List.getElem?_map, hy]; rfl
  have e2 := clone1_val y (by omega) (by omega)
  rw [Int.toNat_natCast, List.getD_eq_getElem?_getD, hy]
  refine RunB ?_ trivial trivial trivial trivial trivial trivial trivial trivial trivial trivial trivial trivial
  refine ⟨?_, by show (6 : Int) ≤ 7; omega, rfl, rfl, rfl, rfl, rfl, rfl⟩
  simp only [aone, AV.wk, AV.wkL, AV.wkL_bvA, Option.getD_some]
theorem atR_in {ss : List (List UInt8)} {k : Nat} (h : k < ss.length) : atR ss (k : Int) = .tup [hdA (k : Int) (ss.getD k []), .bool true] := by
  unfold atR
  rw [if_neg (by omega), Int.toNat_natCast]
theorem head_sys (ls ss xs : List (List UInt8)) (h : ChOk ls ss xs) (c s a b l m : Int) : ASys Try.prog 13 [.ptr c 0] (hdA (ls.length : Int) (ss.getD ls.length []))
    [(c, chC ls ss s a b, chC ls ss s a b), (s, suX xs l m, suX xs l m)] [(a, lnT ls, lnT ls), (b, lnT ss, lnT ss), (l, suL xs, suL xs), (m, suM xs, suM xs)] := by
  refine ChSys.mk (by simp [AV.shutL]) (by simp only [AV.shut, AV.shutL, shutL_bvA, Bool.and_self]) ?_
  refine ACalls_body Try.func13 rfl rfl ?_
  simp only [Try.ntmps13, List.length_cons, List.length_nil, Nat.reduceAdd, Nat.reduceSub, List.replicate_succ, List.replicate_zero, List.cons_append, List.nil_append]
  have e1 := len_sys ls ss xs 0 1 2 3 4 5
  have e2 := at_sys ls ss xs h (ls.length : Int) 0 1 2 3 4 5
  rw [atR_in (by have := h.len; omega)] at e2
  refine RunB ?_ trivial trivial trivial trivial trivial trivial trivial trivial trivial trivial trivial trivial
  refine ⟨?_, by show (6 : Int) ≤ 8; omega, rfl, rfl, rfl, rfl, rfl, rfl⟩
  simp only [aone, AV.wk, AV.wkL, AV.wkL_bvA]
def lkR (ls : List (List UInt8)) (i : Int) : AV := if i < 0 ∨ (ls.length : Int) ≤ i then .tup [bsA [], .bool false] else .tup [bsA (ls.getD i.toNat []), .bool true]
theorem lkR_shut (ss : List (List UInt8)) (i : Int) : (lkR ss i).shut = true := by unfold lkR; split <;> simp only [AV.shut, AV.shutL, shutL_bvA, Bool.and_self]
theorem link_sys (ls ss xs : List (List UInt8)) (h : ChOk ls ss xs) (i : Int) (c s a b l m : Int) : ASys Try.prog 24 [.ptr c 0, .int .i64 i] (lkR ls i)
    [(c, chC ls ss s a b, chC ls ss s a b), (s, suX xs l m, suX xs l m)] [(a, lnT ls, lnT ls), (b, lnT ss, lnT ss), (l, suL xs, suL xs), (m, suM xs, suM xs)] := by
  refine ChSys.mk (by simp [AV.shutL, AV.shut]) (lkR_shut _ _) ?_
  refine ACalls_body Try.func24 rfl rfl ?_
  simp only [Try.ntmps24, List.length_cons, List.length_nil, Nat.reduceAdd, Nat.reduceSub, List.replicate_succ, List.replicate_zero, List.cons_append, List.nil_append]
  unfold lkR
  by_cases h0 : i < 0
  · rw [if_pos (.inl h0)]
    refine RunB ?_ trivial trivial trivial trivial trivial trivial trivial trivial trivial trivial trivial trivial
    exact ⟨rfl, by show (6 : Int) ≤ 6; omega, rfl, rfl, rfl, rfl, rfl, rfl⟩
  by_cases h1 : (ls.length : Int) ≤ i
  · rw [if_pos (.inr h1)]
    refine RunB ?_ trivial trivial trivial trivial trivial trivial trivial trivial trivial trivial trivial trivial
    exact ⟨rfl, by show (6 : Int) ≤ 6; omega, rfl, rfl, rfl, rfl, rfl, rfl⟩
  rw [if_neg (by omega)]
  obtain ⟨k, rfl⟩ := Int.eq_ofNat_of_zero_le (show 0 ≤ i by omega)
  have hlt : k < ls.length := by omega
  obtain ⟨y, hy⟩ : ∃ y, ls[k]? = some y := ⟨_, List.getElem?_eq_getElem hlt⟩
  have hy32 := h.texts y (List.mem_of_getElem? hy)
  have hc : (ls.map bsA)[k]? = some (bsA y) := by rw [List.getElem?_map, hy]; rfl
  have e2 := clone1_val y (by omega) (by omega)
  rw [Int.toNat_natCast, List.getD_eq_getElem?_getD, hy]
  refine RunB ?_ trivial trivial trivial trivial trivial trivial trivial trivial trivial trivial trivial trivial
  refine ⟨?_, by show (6 : Int) ≤ 6; omega, rfl, rfl, rfl, rfl, rfl, rfl⟩
  simp only [aone, AV.wk, AV.wkL, AV.wkL_bvA, Option.getD_some]
def chkN (ss : List (List UInt8)) (i : Int) (y : List UInt8) : Int := if i < 0 then 12 else if (ss.length : Int) ≤ i then 14 else if ss.getD i.toNat [] = y then 0 else 24
theorem check_sys (ls ss xs : List (List UInt8)) (h : ChOk ls ss xs) (i : Int) (y : List UInt8) (c s a b l m : Int) : ASys Try.prog 17 [.ptr c 0, hdA i y] (.int .i64 (chkN ss i y))
    [(c, chC ls ss s a b, chC ls ss s a b), (s, suX xs l m, suX xs l m)] [(a, lnT ls, lnT ls), (b, lnT ss, lnT ss), (l, suL xs, suL xs), (m, suM xs, suM xs)] := by
  refine ChSys.mk (by simp only [AV.shut, AV.shutL, shutL_bvA, Bool.and_self]) (by simp [AV.shut]) ?_
  refine ACalls_body Try.func17 rfl rfl ?_
  simp only [Try.ntmps17, List.length_cons, List.length_nil, Nat.reduceAdd, Nat.reduceSub, List.replicate_succ, List.replicate_zero, List.cons_append, List.nil_append]
  unfold chkN
  by_cases h0 : i < 0
  · rw [if_pos h0]
    refine RunB ?_ trivial trivial trivial trivial trivial trivial trivial trivial trivial trivial trivial trivial
    exact ⟨rfl, by show (6 : Int) ≤ 7; omega, rfl, rfl, rfl, rfl, rfl, rfl⟩
  rw [if_neg h0]
  have e2 := at_sys ls ss xs h i 0 1 2 3 4 5
  by_cases h1 : (ss.length : Int) ≤ i
  · rw [if_pos h1]
    unfold atR at e2
    rw [if_pos (.inr h1)] at e2
    refine RunB ?_ trivial trivial trivial trivial trivial trivial trivial trivial trivial trivial trivial trivial
    exact ⟨rfl, by show (6 : Int) ≤ 8; omega, rfl, rfl, rfl, rfl, rfl, rfl⟩
  rw [if_neg h1]
  unfold atR at e2
  rw [if_neg (by omega)] at e2
  have hlt : i.toNat < ss.length := by omega
  have hy32 : (ss.getD i.toNat []).length = 32 := by rw [List.getD_eq_getElem?_getD, List.getElem?_eq_getElem hlt]; exact h.sums _ (List.getElem_mem hlt)
  generalize ss.getD i.toNat [] = z at e2 hy32
  have e3 := equal_val z y (by omega)
  by_cases hz : z = y
  · rw [if_pos hz]
    rw [show (z == y) = true by simp [hz]] at e3
    refine RunB ?_ trivial trivial trivial trivial trivial trivial trivial trivial trivial trivial trivial trivial
    exact ⟨rfl, by show (6 : Int) ≤ 8; omega, rfl, rfl, rfl, rfl, rfl, rfl⟩
  · rw [if_neg hz]
    rw [show (z == y) = false by simp [hz]] at e3
    refine RunB ?_ trivial trivial trivial trivial trivial trivial trivial trivial trivial trivial trivial trivial
    exact ⟨rfl, by show (6 : Int) ≤ 8; omega, rfl, rfl, rfl, rfl, rfl, rfl⟩
end Go.Proofs.Ythpigmkdchnnoaa
