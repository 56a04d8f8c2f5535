/- docs: its map, and names sorted, by the abstract machine. -/
import Derived.Test.YtnjkklkjlloedaaDcP
import Derived.Test.YtnjkklkjlloedaaIter
import Derived.Test.YtnjkklkjlloedaaRng
import Derived.Test.YtnjkklkjlloedaaRunB
namespace Go.Proofs.Ytnjkklkjlloedaa
open Go.RowKit
set_option linter.unusedVariables false
set_option linter.unusedSimpArgs false
set_option maxRecDepth 10000
abbrev stA2 (ls : List Nm) : AV := .sl .none (ls.map .str) ls.length
/-- The map's entries. -/
def dcA (D : Dm) : List (AV × AV) := D.map fun e => (.str e.1, .str e.2)
abbrev mpD (D : Dm) : Tq := .mp (.one .str) (dcA D)
/-- Calls that see a docs' object and its map. -/
theorem DcSys.mk {g : FuncId} {args : List AV} {R : AV} {T T' : Tq} {s m : Int} (hA : AV.shutL args = true) (hR : R.shut = true)
    (h : ACalls Try.prog g (.ptr 0 0 :: args) ⟨[(0, [.map 1])], [(1, T)], 2⟩ (fun rv σ1 => rv.wk = R ∧ 2 ≤ σ1.next ∧ alook σ1.objs 0 = some [.map 1] ∧ alook σ1.toks 1 = some T')) :
    ASys Try.prog g (.ptr s 0 :: args) R [(s, [.map m], [.map m])] [(m, T, T')] := by
  refine ASys.mk (args0 := .ptr 0 0 :: args) (zo := [(0, [.map 1], [.map 1])]) (zt := [(1, T, T')]) 2 (fun i => if i = 0 then s else m) ?_ rfl rfl (by omega) ?_ ?_ ?_ ?_ ?_ hR ?_
  · simp [AV.renL, AV.ren, AV.renL_shut _ _ hA]
  · intro i h0 h1
    simp [sysIds]
    omega
  · intro i hi
    simp [sysIds] at hi
    omega
  · simp [sysIds]
  · simp only [AV.idsL, AV.ids, AV.idsL_shut _ _ hA]; rfl
  · intro e he
    simp only [List.mem_singleton] at he
    subst he
    exact ⟨rfl, rfl⟩
  · refine h.sub (fun rv σ' ⟨h1, h2, h3, h4⟩ => ⟨σ', ASub.refl _, h1, h2, ?_, ?_⟩)
    · intro e he
      simp only [List.mem_singleton] at he
      subst he; exact h3
    · intro e he
      simp only [List.mem_singleton] at he
      subst he; exact h4
theorem St.perm {base : Nat} {Fi : Int → Prop} {M : MM} {w : World} {σ : ASt} (S : St base Fi M w σ) {id : Int} {sh : KSh} {kvs kvs' : List (AV × AV)} (hp : sh.plain = true) (ho : alook σ.toks id = some (.mp sh kvs)) (hP : kvs.Perm kvs') : St base Fi M w ⟨σ.objs, aset σ.toks id (.mp sh kvs'), σ.next⟩ := by
  obtain ⟨hF, hA⟩ := S.mps id _ kvs ho
  obtain ⟨b, es, ck, kvs0, h1, h2, h3, h5, h6, h7⟩ := hA.get hp
  refine ⟨S.base_le, S.obs, fun i t hl => ?_, fun i s ks hl => ?_, S.inj, S.dis, S.tinj, S.obsz, S.tksz, S.fresh⟩
  · simp only [alook_aset] at hl
    split at hl
    · rw [ho] at hl; cases hl
    · exact S.tks i t hl
  · simp only [alook_aset] at hl
    split at hl
    · rename_i he
      subst he
      rw [ho] at hl; cases hl
      exact ⟨hF, MapAt.put hp b es ck h1 h2 h3 h5 h6 (h7.trans hP)⟩
    · exact S.mps i s ks hl
/-- The same where the map's entries end in any order. -/
theorem DcSys.mkP {g : FuncId} {args : List AV} {R : AV} {T : Tq} {kvs' : List (AV × AV)} {s m : Int} (hA : AV.shutL args = true) (hR : R.shut = true)
    (h : ACalls Try.prog g (.ptr 0 0 :: args) ⟨[(0, [.map 1])], [(1, T)], 2⟩ (fun rv σ1 => rv.wk = R ∧ 2 ≤ σ1.next ∧ alook σ1.objs 0 = some [.map 1] ∧ ∃ kvs, alook σ1.toks 1 = some (.mp (.one .str) kvs) ∧ kvs.Perm kvs')) :
    ASys Try.prog g (.ptr s 0 :: args) R [(s, [.map m], [.map m])] [(m, T, .mp (.one .str) kvs')] := by
  refine DcSys.mk hA hR ?_
  intro base Fi M w vs S hr
  refine (h base Fi M w vs S hr).mono ?_
  rintro e w' ⟨r, σ', M', v, ⟨h1, h2, h3, kvs, h4, h5⟩, he, hv, S', T'⟩
  exact ⟨r, ⟨σ'.objs, aset σ'.toks 1 (.mp (.one .str) kvs'), σ'.next⟩, M', v, ⟨h1, h2, h3, by simp only [alook_aset, if_true, h4, Option.map_some]⟩, he, hv, S'.perm rfl h4 h5, T'⟩
theorem dcA_out {D : Dm} {k : Nm} (h : ∀ e ∈ D, e.1 ≠ k) : ∀ p ∈ dcA D, p.1 ≠ AV.str k := by
  intro p hp he
  obtain ⟨e, h1, rfl⟩ := List.mem_map.1 hp
  simp only [AV.str.injEq] at he
  exact h e h1 he
theorem dcA_split {l1 l2 : Dm} {k v : Nm} : dcA (l1 ++ (k, v) :: l2) = dcA l1 ++ (.str k, .str v) :: dcA l2 := by simp [dcA]
theorem dcA_app {l1 l2 : Dm} : dcA (l1 ++ l2) = dcA l1 ++ dcA l2 := by simp [dcA]
theorem dcA_snoc {D : Dm} {k v : Nm} : dcA D ++ [(.str k, .str v)] = dcA (D ++ [(k, v)]) := by simp [dcA]
theorem dcA_in {D : Dm} {e : Nm × Nm} (h : e ∈ D) : (AV.str e.1, AV.str e.2) ∈ dcA D := List.mem_map.2 ⟨e, h, rfl⟩
theorem dcA_perm {D D' : Dm} (h : D.Perm D') : (dcA D).Perm (dcA D') := h.map _
theorem strsS (ls : List Nm) : AV.shutL (ls.map .str) = true := by
  induction ls with
  | nil => rfl
  | cons l r ih => simp only [List.map_cons, AV.shutL, AV.shut, ih, Bool.and_self]
theorem strsW (ls : List Nm) : AV.wkL (ls.map .str) = ls.map .str := by
  induction ls with
  | nil => rfl
  | cons l r ih => simp only [List.map_cons, AV.wkL, AV.wk, ih]
theorem strs_reps {M : MM} {w : World} : ∀ {ls : List Nm}, (∀ l ∈ ls, l.length ≤ maxLen) → RepsL M w (ls.map AV.str) (ls.map encStr)
  | [], _ => RepsL.nil
  | l :: r, h => RepsL.cons (by unfold Reps; exact ⟨rfl, h l (List.mem_cons_self ..)⟩) (strs_reps fun x hx => h x (List.mem_cons_of_mem _ hx))
/-- A map's keys as they are told apart. -/
theorem rel_keys {M : MM} {w : World} {kvs : List (AV × AV)} {es : List MapEntry} {D : Dm} (h : MapRel M w (.one .str) kvs es) (hP : kvs.Perm (dcA D)) : ∃ ns : List Nm, ns.Perm (D.map Prod.fst) ∧ es.map MapEntry.key = ns.map encStr ∧ ∀ l ∈ ns, l.length ≤ maxLen := by
  obtain ⟨D0, h1, rfl⟩ := perm_map_inv hP rfl
  have hk : ∀ (i : Nat) (d : Nm × Nm) (e : MapEntry), D0[i]? = some d → es[i]? = some e → e.key = encStr d.1 ∧ d.1.length ≤ maxLen := fun i d e hd he => by
    obtain ⟨g1, _⟩ := h.2 i (.str d.1, .str d.2) e (by rw [List.getElem?_map, hd]; rfl) he
    unfold Reps at g1
    exact g1
  have hl : es.length = D0.length := by rw [h.1, List.length_map]
  refine ⟨D0.map Prod.fst, h1.map _, ?_, fun l hl2 => ?_⟩
  · apply List.ext_getElem?
    intro i
    rw [List.getElem?_map, List.map_map, List.getElem?_map]
    by_cases hi : i < D0.length
    · have h2 := List.getElem?_eq_getElem hi
      have h3 := List.getElem?_eq_getElem (show i < es.length by omega)
      rw [h2, h3]
      exact congrArg some (hk i _ _ h2 h3).1
    · rw [List.getElem?_eq_none (by omega), List.getElem?_eq_none (by omega)]; rfl
  · obtain ⟨d, hd, rfl⟩ := List.mem_map.1 hl2
    obtain ⟨i, hi⟩ := List.getElem?_of_mem hd
    have hil := (List.getElem?_eq_some_iff.1 hi).1
    exact (hk i d _ hi (List.getElem?_eq_getElem (show i < es.length by omega))).2
/-- slices.Sorted at what maps.Keys handed back. -/
theorem sorted_sys (D : Dm) (hD : DmOk D) (hn : D.length ≤ 1000) (n m : Int) : ASys Try.prog 65 [.fn 86 [] [.ptr n 0]] (stA2 (D.map Prod.fst)) [(n, [.map m], [.map m])] [(m, mpD D, mpD D)] := by
  refine ASys.mk (args0 := [.fn 86 [] [.ptr 0 0]]) (zo := [(0, [.map 1], [.map 1])]) (zt := [(1, mpD D, mpD D)]) 2 (fun i => if i = 0 then n else m) rfl rfl rfl (by omega) ?_ ?_ ?_ rfl ?_ ?_ ?_
  · intro i h0 h1
    simp [sysIds]
    omega
  · intro i hi
    simp [sysIds] at hi
    omega
  · simp [sysIds]
  · intro e he
    simp only [List.mem_singleton] at he
    subst he
    exact ⟨rfl, rfl⟩
  · unfold AV.shut
    exact strsS _
  intro base Fi M w vs S hr
  unfold RepsL at hr
  obtain ⟨v0, vr, rfl, hr0, hr1⟩ := hr
  unfold RepsL at hr1
  subst hr1
  unfold Reps at hr0
  obtain ⟨fs, cs, rfl, hf, hc⟩ := hr0
  unfold RepsL at hf
  unfold RepsL at hc
  obtain ⟨p, pr, hc1, hp, hpr⟩ := hc
  unfold RepsL at hpr
  subst hpr
  unfold Reps at hp
  obtain ⟨Bm, hBm, rfl⟩ := hp
  obtain rfl : fs = #[] := by cases fs; simp_all
  obtain rfl : cs = #[.pointer (some ⟨Bm, 0, none⟩)] := by cases cs; simp_all
  obtain ⟨_, b2, us, e2, hb2, hbase, hcell, hus⟩ := S.obs 0 [.map 1] rfl
  rw [hBm] at hb2; cases hb2
  unfold RepsL at hus
  obtain ⟨mv, ur, hus1, hmv, hur⟩ := hus
  unfold RepsL at hur
  subst hur
  unfold Reps at hmv
  obtain ⟨b, hb, rfl⟩ := hmv
  obtain ⟨b', es, c, kvs0, g1, g2, g3, g4, g5, hP⟩ := (S.mps 1 (.one .str) (dcA D) rfl).2.get rfl
  rw [hb] at g1; cases g1
  obtain ⟨ns, hns, hkeys, hlen⟩ := rel_keys g5 hP
  have hsz : es.size = D.length := by
    have h1 := g5.1
    rw [hP.length_eq, dcA, List.length_map] at h1
    simpa using h1
  let R : Value → Option (DataW Unit × List MemPlace) := fun _ => some (.nil, [])
  have hrd : ∀ x ∈ es.toList, ∃ l : Nm, x.key = encStr l ∧ l.length ≤ maxLen := fun x hx => by
    have : x.key ∈ ns.map encStr := by rw [← hkeys]; exact List.mem_map.2 ⟨x, hx, rfl⟩
    obtain ⟨l, hl, he⟩ := List.mem_map.1 this
    exact ⟨l, he.symm, hlen l hl⟩
  have hko : ∀ (l : Nm), l.length ≤ maxLen → keyOf Try.prog 9 (encStr l) = some (.string l) := fun l hl => by
    have := Go.WideMaps.keyOf_string_mk (P := Try.prog) (k := 9) Try.underlying9 (s := ⟨l.toArray⟩) (by simpa [ByteArray.size] using hl)
    simpa using this
  have hown : w.ownsMap Try.prog 9 R b 1000 (.map ((es.toList.map (Go.WideElems.rg Try.prog 9 R)).foldr DataW.insert [])) := by
    refine ⟨es, c, g3, ⟨by rw [hsz]; exact Nat.le_trans hn (by decide), g4, fun x hx => ?_⟩, by omega, rfl⟩
    obtain ⟨l, hl, hm⟩ := hrd x hx
    exact ⟨(.string l, .nil), by unfold Go.WideElems.rd; rw [hl, hko l hm]; rfl⟩
  have hsize : Maps.size (.map ((es.toList.map (Go.WideElems.rg Try.prog 9 R)).foldr DataW.insert []) : DataW Unit) = D.length := by
    show ((es.toList.map (Go.WideElems.rg Try.prog 9 R)).foldr DataW.insert []).length = D.length
    rw [(Go.WideShapes.sorted_perm _).length_eq, List.length_map, Array.length_toList, hsz]
  have hBs : Bm < w.heap.size := S.obsz 0 Bm hBm
  have husx : us = #[.map (some b)] := by cases us; simp_all
  have hcl : w.cell? ⟨Bm, 0, none⟩ = some (.map (some b)) := by
    simp [World.cell?, hcell, husx]
  refine (Try.sortedKeys Bm b 1000 _ R w hBs hcl hown (by rw [hsize]; exact Nat.le_trans hn (by decide)) (by rw [hsize]; omega)).mono ?_
  rintro e w' ⟨v, ss, rfl, hS, hrow, hnil, hB⟩
  have hG := Below.grew hB
  have hsp : ss.Perm (D.map Prod.fst) := by
    refine hS.trans (List.Perm.trans ?_ hns)
    have h1 : strKeys (.map ((es.toList.map (Go.WideElems.rg Try.prog 9 R)).foldr DataW.insert []) : DataW Unit) = ((es.toList.map (Go.WideElems.rg Try.prog 9 R)).foldr DataW.insert []).map fun p => strOf p.1 := rfl
    rw [h1]
    refine ((Go.WideShapes.sorted_perm _).map _).trans (List.Perm.of_eq ?_)
    rw [List.map_map]
    apply List.ext_getElem?
    intro i
    have h2 : (es.toList.map MapEntry.key)[i]? = (ns.map encStr)[i]? := by rw [hkeys]
    rw [List.getElem?_map] at h2 ⊢
    rw [List.getElem?_map] at h2
    cases he : es.toList[i]? with
    | none =>
      rw [he] at h2
      cases hn2 : ns[i]? with
      | none => rfl
      | some l => rw [hn2] at h2; cases h2
    | some x =>
      rw [he] at h2
      cases hn2 : ns[i]? with
      | none => rw [hn2] at h2; cases h2
      | some l =>
        rw [hn2] at h2
        simp only [Option.map_some, Option.some.injEq] at h2
        have hl := hlen l (List.mem_of_getElem? hn2)
        have h3 : Go.WideElems.rd Try.prog 9 R x = some (.string l, .nil) := by unfold Go.WideElems.rd; rw [h2, hko l hl]; rfl
        simp only [Option.map_some, Function.comp, Go.WideElems.rg, h3, Option.getD_some]
        rfl
  rw [sort_names hD hsp] at hrow
  have hss : ss.length = D.length := by rw [hsp.length_eq, List.length_map]
  refine ⟨stA2 (D.map Prod.fst), ⟨[(0, [.map 1])], [(1, mpD D)], 2⟩, M, v, ⟨?_, Int.le_refl _, ?_, ?_⟩, rfl, ?_, hG.st S, hG.stp S⟩
  · unfold AV.wk
    rw [strsW]
  · intro e he
    simp only [List.mem_singleton] at he
    subst he; rfl
  · intro e he
    simp only [List.mem_singleton] at he
    subst he; rfl
  have hls : ∀ l ∈ D.map Prod.fst, l.length ≤ maxLen := fun l hl => hlen l (hns.mem_iff.2 hl)
  unfold Reps
  rcases hrow.2 with ⟨rfl, h0⟩ | ⟨g, cap, cur, rfl, hbs, hb2, h1, h2, h3, h4⟩
  · have : D = [] := List.eq_nil_of_length_eq_zero (by omega)
    subst this
    exact ⟨none, 0, [], rfl, Nat.le_refl _, by simp, fun _ => rfl, .inl rfl, RepsL.nil, fun _ => rfl, trivial⟩
  · have hDl : (D.map Prod.fst).length = ss.length := by rw [List.length_map, hss]
    rw [hDl]
    refine ⟨some ⟨g, 0, none⟩, cap, (D.map Prod.fst).map encStr, rfl, h1, h2, (fun h => by cases h), .inr ⟨g, 0, rfl, fun j u hj => ?_⟩, strs_reps hls, fun h => ?_, trivial⟩
    · refine ⟨?_, stab_new S hbs _⟩
      rw [Nat.zero_add]
      have hj2 : cur.toList[j]? = some u := by
        have hjl := (List.getElem?_eq_some_iff.1 hj).1
        rw [← hj, ← h4, Nat.mul_one, List.getElem?_take_of_lt (by simp at hjl; omega)]
      simp [World.cell?, hb2]
      simpa using hj2
    · have : D = [] := List.eq_nil_of_length_eq_zero (by omega)
      subst this
      rfl
end Go.Proofs.Ytnjkklkjlloedaa
