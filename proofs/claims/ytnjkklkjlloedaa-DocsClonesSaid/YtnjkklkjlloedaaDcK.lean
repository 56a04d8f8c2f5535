/- Law 11: DocsClones. -/
import Derived.Test.YtnjkklkjlloedaaDcF
import Derived.Test.YtnjkklkjlloedaaBfS
import Derived.Test.YtnjkklkjlloedaaScp
namespace Go.Proofs.Ytnjkklkjlloedaa
open Go.RowKit
set_option linter.unusedVariables false
set_option linter.unusedSimpArgs false
set_option maxRecDepth 10000
/-- A document whose value may be written: its buffer's number, and its room. -/
abbrev GE := (Nm × Nm) × (Int × Nat)
def gO (E : List GE) : List (Int × List AV) := E.map fun e => (e.2.1, e.1.2.map bvA ++ anys e.2.2)
def gC (E : List GE) : List AV := E.flatMap fun e => [bsA e.1.1, .buf e.2.1 0 e.1.2.length (e.1.2.length + e.2.2)]
theorem gC_snoc {E : List GE} {e : GE} : gC E ++ [bsA e.1.1, .buf e.2.1 0 e.1.2.length (e.1.2.length + e.2.2)] = gC (E ++ [e]) := by simp [gC]
theorem gO_out {E : List GE} {id : Int} (h : ∀ e ∈ E, e.2.1 ≠ id) : alook (gO E) id = none := by
  induction E with
  | nil => rfl
  | cons e r ih =>
    simp only [gO, List.map_cons, alook]
    rw [if_neg (h e (List.mem_cons_self ..))]
    exact ih fun x hx => h x (List.mem_cons_of_mem _ hx)
theorem gC_len : ∀ E : List GE, (gC E).length = E.length * 2
  | [] => rfl
  | e :: r => by have := gC_len r; simp only [gC] at this; simp only [gC, List.flatMap_cons, List.length_append, List.length_cons, List.length_nil, this]; omega
theorem gC_drop : ∀ (E : List GE) (k : Nat), (gC E).drop (k * 2) = gC (E.drop k)
  | E, 0 => by simp
  | [], k + 1 => by simp [gC]
  | e :: r, k + 1 => by
    rw [show (k + 1) * 2 = k * 2 + 1 + 1 by omega, List.drop_succ_cons]
    exact gC_drop r k
theorem gC_load {E : List GE} {k : Nat} {e : GE} (h : E[k]? = some e) : aload true 2 (gC E) (k * 2) = some (.agg [bsA e.1.1, .buf e.2.1 0 e.1.2.length (e.1.2.length + e.2.2)]) := by
  obtain ⟨hk, rfl⟩ := List.getElem?_eq_some_iff.1 h
  simp only [aload, if_true]
  rw [if_pos (by rw [gC_len]; omega), gC_drop, List.drop_eq_getElem_cons hk]
  rfl
theorem gO_snoc {E : List GE} {e : GE} {id : Int} : alook (gO (E ++ [e])) id = (alook (gO E) id).or (if e.2.1 = id then some (e.1.2.map bvA ++ anys e.2.2) else none) := by
  induction E with
  | nil => simp only [gO, List.nil_append, List.map_cons, List.map_nil, alook, Option.none_or]
  | cons x r ih =>
    simp only [gO, List.cons_append, List.map_cons, alook] at ih ⊢
    split
    · rfl
    · exact ih
theorem gO_sub {E : List GE} {n v : Nm} {id s : Int} {k : Nat} {a b : List AV} {t : List (Int × Tq)} {nx : Int} (hf : ∀ e ∈ E, e.2.1 ≠ id) (h1 : s ≠ id) (h2 : (1 : Int) ≠ id) : ASub ⟨(s, a) :: (1, b) :: gO (E ++ [((n, v), (id, k))]), t, nx⟩ ⟨(id, v.map bvA ++ anys k) :: (s, a) :: (1, b) :: gO E, t, nx⟩ := by
  refine ⟨fun i c hl => ?_, fun i c hl => hl, Int.le_refl _⟩
  simp only [alook] at hl ⊢
  by_cases hi : id = i
  · subst hi
    rw [if_neg h1, if_neg h2, gO_snoc, gO_out hf] at hl
    rw [if_pos rfl]
    simpa using hl
  · rw [if_neg hi]
    split at hl
    · rename_i h; rw [if_pos h]; exact hl
    · rename_i h
      rw [if_neg h]
      split at hl
      · rename_i h; rw [if_pos h]; exact hl
      · rename_i h
        rw [if_neg h]
        rw [gO_snoc, if_neg hi, Option.or_none] at hl
        exact hl
theorem gO_sub2 {L : List (Int × List AV)} {n s id : Int} {a b c d : List AV} {t : List (Int × Tq)} {nx : Int} (h1 : s ≠ n) (h2 : (1 : Int) ≠ n) (h3 : alook L n = none) (h4 : alook L id = none) : ASub ⟨(s, a) :: (1, b) :: L, t, nx⟩ ⟨(n, c) :: (s, a) :: (1, b) :: (id, d) :: L, t, nx⟩ := by
  refine ⟨fun i x hl => ?_, fun i x hl => hl, Int.le_refl _⟩
  simp only [alook] at hl ⊢
  by_cases hi : n = i
  · subst hi
    rw [if_neg h1, if_neg h2, h3] at hl
    cases hl
  · rw [if_neg hi]
    split at hl
    · rename_i h; rw [if_pos h]; exact hl
    · rename_i h
      rw [if_neg h]
      split at hl
      · rename_i h; rw [if_pos h]; exact hl
      · rename_i h
        rw [if_neg h]
        by_cases hj : id = i
        · subst hj
          rw [h4] at hl
          cases hl
        · rw [if_neg hj]; exact hl
theorem AWP_steq {P : Program} {c : Code} {sl : List AV} {σ σ' : ASt} {Q : Exit → List AV → ASt → Prop} (h : σ = σ') (hw : AWP P c sl σ' Q) : AWP P c sl σ Q := h ▸ hw
theorem dallO_calls (D D2 : Dm) (hD : DmOk D2) (hn : D2.length ≤ 1000) (s m nx : Int) (h1 : 1 < m) (h2 : m < s) (h3 : s < nx) : ACalls Try.prog 32 [.ptr s 0] ⟨[(s, [.map m]), (1, [.map 0])], [(m, mpD D2), (0, mpD D)], nx⟩
    (fun rv σ' => ∃ (E : List GE) (t nz : Int), rv = .sl (.tok t E.length 2) (gC E) E.length ∧ σ' = ⟨(s, [.map m]) :: (1, [.map 0]) :: gO E, [(t, E.length), (m, mpD D2), (0, mpD D)], nz⟩ ∧ E.map Prod.fst = D2 ∧ (E.map fun e => e.2.1).Nodup ∧ (∀ e ∈ E, s < e.2.1 ∧ 1 < e.2.1 ∧ e.2.1 < nz) ∧ t < nz ∧ nx ≤ t) := by
  refine ACalls_body Try.func32 rfl rfl ?_
  simp only [Try.ntmps32, List.length_cons, List.length_nil, Nat.reduceAdd, Nat.reduceSub, List.replicate_succ, List.replicate_zero, List.cons_append, List.nil_append]
  have e1 := sorted_sys D2 hD hn nx m
  refine RunB ?_ trivial trivial (⟨Try.func66, rfl, rfl⟩ : Inl Try.prog 66 _ _ _) trivial trivial trivial trivial trivial trivial trivial trivial trivial
  refine AOPS_assign (av := .any) rfl rfl ?_
  simp only [aput, List.set_cons_succ, List.set_cons_zero]
  refine RunB ?_ trivial trivial trivial trivial trivial trivial trivial trivial trivial trivial trivial trivial
  simp only [aone]
  refine RunB ?_ trivial trivial trivial trivial trivial trivial trivial trivial trivial trivial trivial trivial
  refine AWP_adopt 3 2 rfl (by simp only [setF]; rfl) ?_
  refine AWP_loopW [3, 5, 13, 14, 15, 16, 17, 18, 19, 20, 21, 22, 23, 24, 25, 26, 27, 28, 29, 30] (N := Nat × Nat × List AV × List GE × Int × List AV) (fun ⟨k, n, cs, E, nz, js⟩ => [.sl (.tok (nx + 1) n 2) cs n, js.getD 0 .und, .int .i64 (k : Int), js.getD 1 .und, js.getD 2 .und, js.getD 3 .und, js.getD 4 .und, js.getD 5 .und, js.getD 6 .und, js.getD 7 .und, js.getD 8 .und, js.getD 9 .und, js.getD 10 .und, js.getD 11 .und, js.getD 12 .und, js.getD 13 .und, js.getD 14 .und, js.getD 15 .und, js.getD 16 .und, js.getD 17 .und]) (fun ⟨k, n, cs, E, nz, js⟩ => ⟨(s, [.map m]) :: (1, [.map 0]) :: gO E, [(nx + 1, n), (m, mpD D2), (0, mpD D)], nz⟩) (fun ⟨k, n, cs, E, nz, js⟩ => k ≤ D2.length ∧ cs = gC E ∧ E.map Prod.fst = D2.take k ∧ n = E.length ∧ (E.map fun e => e.2.1).Nodup ∧ (∀ e ∈ E, s < e.2.1 ∧ 1 < e.2.1 ∧ e.2.1 < nz) ∧ nx + 1 < nz) (fun ⟨k, n, cs, E, nz, js⟩ => D2.length - k) ⟨0, 0, [], [], nx + 1 + 1, [_, _, _, _, _, _, _, _, _, _, _, _, _, _, _, _, _, _]⟩ rfl ?hs0 ?hi0 ?_
  rotate_left 2
  rintro ⟨k, n, cs, E, nz, js⟩ sl_ hs hi
  simp only [setsF, setF, Option.some.injEq] at hs
  subst hs
  case hs0 => exact (ASub.refl _).drop (by simp only [gO, List.map_nil, alook]; repeat (first | rw [if_neg (by omega)]))
  case hi0 => exact ⟨by omega, rfl, rfl, rfl, by simp, (fun e he => by cases he), by omega⟩
  obtain ⟨hk, hcs, hE, hn2, hnd, hid, hnz⟩ := hi
  by_cases hlt : k < D2.length
  · have hel : D2[k]? = some D2[k] := List.getElem?_eq_getElem hlt
    have hin := dcA_in (List.getElem_mem hlt)
    generalize D2[k] = d at hel hin
    have hc : ((D2.map Prod.fst).map AV.str)[k]? = some (.str d.1) := by rw [List.getElem?_map, List.getElem?_map, hel]; rfl
    replace hin := Lib.hid hin
    have hnk : n = k := by have := congrArg List.length hE; rw [List.length_map, List.length_take] at this; omega
    refine RunB ?_ trivial trivial trivial trivial trivial trivial trivial trivial trivial trivial trivial trivial
    with_reducible apply S_lookup_at (kvs := dcA D2) (ka := .str d.1) (xv := .str d.2)
    case hx => rfl
    case hy => rfl
    case ho => simp only [alook]; rw [if_neg (by omega)]; simp only [if_true]
    case hk => rfl
    case hm => exact hin.out
    case hs => rfl
    with_reducible apply B_bytes_obj (s := d.2)
    case hx => rfl
    intro kp
    simp only [aput, List.set_cons_succ, List.set_cons_zero]
    refine RunB ?_ trivial trivial trivial trivial trivial trivial trivial trivial trivial trivial trivial trivial
    refine ALoopW_normal ⟨k + 1, n + 1, cs ++ [bsA d.1, .buf nz 0 d.2.length (d.2.length + kp)], E ++ [((d.1, d.2), (nz, kp))], nz + 1, [_, _, _, _, _, _, _, _, _, _, _, _, _, _, _, _, _, _]⟩ rfl ?hs1 ?hi1 ?hm1
    case hs1 => exact gO_sub (fun e he => by have := hid e he; omega) (by omega) (by omega)
    case hi1 =>
      dsimp only
      refine ⟨by omega, by rw [hcs]; exact gC_snoc (e := ((d.1, d.2), (nz, kp))), ?_, by simp [hn2], ?_, fun e he => ?_, by omega⟩
      · rw [List.map_append, hE, List.take_add_one, hel]; rfl
      · rw [List.map_append, List.nodup_append]
        refine ⟨hnd, by simp, fun a ha b hb => ?_⟩
        obtain ⟨e, he, rfl⟩ := List.mem_map.1 ha
        simp only [List.map_cons, List.map_nil, List.mem_singleton] at hb
        have := hid e he
        omega
      · rcases List.mem_append.1 he with he | he
        · have := hid e he
          omega
        · rw [List.mem_singleton] at he
          subst he
          show s < nz ∧ 1 < nz ∧ nz < nz + 1
          omega
    case hm1 => simp only; omega
  · obtain rfl : k = D2.length := by omega
    rw [List.take_length] at hE
    have hl1 : ((D2.map Prod.fst).length : Int) = (D2.length : Int) := by rw [List.length_map]
    subst hn2 hcs
    refine RunB ?_ trivial trivial trivial trivial trivial trivial trivial trivial trivial trivial trivial trivial
    exact ⟨E, nx + 1, nz, rfl, rfl, hE, hnd, hid, by omega, by omega⟩
set_option maxHeartbeats 20000000 in
theorem DocsClones_law (l l2 : List En) (hm : l.length ≤ 9223372036854775807) (hl : ∀ e ∈ l, e.wraps.length ≤ 9223372036854775807) (hm2 : l2.length ≤ 9223372036854775807) (hl2 : ∀ e ∈ l2, e.wraps.length ≤ 9223372036854775807) : ACalls Try.prog 12 [ensA l, ensA l2] ⟨[], [], 0⟩ (fun rv _ => rv = .bool true) := by
  refine ACalls_body Try.func12 rfl rfl ?_
  simp only [Try.ntmps12, List.length_cons, List.length_nil, Nat.reduceAdd, Nat.reduceSub, List.replicate_succ, List.replicate_zero, List.cons_append, List.nil_append]
  have ha := anchor11_val
  by_cases b1 : 20 < l.length
  · refine RunB ?_ trivial trivial trivial trivial trivial trivial trivial trivial trivial trivial trivial trivial
    rfl
  by_cases b2 : 20 < l2.length
  · refine RunB ?_ trivial trivial trivial trivial trivial trivial trivial trivial trivial trivial trivial trivial
    rfl
  refine RunB ?_ trivial trivial (⟨Try.func29, rfl, rfl⟩ : Inl Try.prog 29 _ _ _) trivial trivial trivial trivial trivial trivial trivial trivial trivial
  refine AWP_loopW [4, 7, 28, 29, 30, 31, 32, 33, 34, 35, 36, 37, 38] (N := Nat × Int × Dm × List AV) (fun ⟨k, nx, D, js⟩ => [js.getD 0 .und, js.getD 1 .und, .int .i64 (k : Int), js.getD 2 .und, js.getD 3 .und, js.getD 4 .und, js.getD 5 .und, js.getD 6 .und, js.getD 7 .und, js.getD 8 .und, js.getD 9 .und, js.getD 10 .und, js.getD 11 .und]) (fun ⟨k, nx, D, js⟩ => ⟨[(1, [.map 0])], [(0, mpD D)], nx⟩) (fun ⟨k, nx, D, js⟩ => k ≤ l.length ∧ DmOk D ∧ DmLen D ∧ D.length ≤ k ∧ 2 ≤ nx) (fun ⟨k, nx, D, js⟩ => l.length - k) ⟨0, 2, [], [_, _, _, _, _, _, _, _, _, _, _, _]⟩ rfl ?hs0 ?hi0 ?_
  rotate_left 2
  rintro ⟨k, nx, D, js⟩ sl_ hs hi
  simp only [setsF, setF, Option.some.injEq] at hs
  subst hs
  case hs0 => exact ASub.refl _
  case hi0 => exact ⟨by omega, DmOk.nil, DmLen.nil, by simp, by omega⟩
  obtain ⟨hkl, okD, lenD, hDk, hnx⟩ := hi
  by_cases hlt : k < l.length
  · have hel : l[k]? = some l[k] := List.getElem?_eq_getElem hlt
    have hcl := enCs_load hel
    have hwl := hl _ (List.getElem_mem hlt)
    generalize l[k] = x at hel hcl hwl
    have hS := smallE_val x hwl
    by_cases hsm : SmallE x
    case neg =>
      rw [decide_eq_false hsm] at hS
      refine RunB ?_ trivial trivial trivial trivial trivial trivial trivial trivial trivial trivial trivial trivial
      rfl
    rw [decide_eq_true hsm] at hS
    have q := dapply_sys D okD x hsm.mid 1 0
    refine RunB ?_ trivial trivial trivial trivial trivial trivial trivial trivial trivial @wpCs_wk trivial trivial
    refine ALoopW_normal ⟨k + 1, nx + 1, dapD D x, [_, _, _, _, _, _, _, _, _, _, _, _]⟩ rfl ?hs1 ?hi1 ?hm1
    case hs1 => exact (ASub.refl _).drop (by simp only [alook]; repeat (first | rw [if_neg (by omega)]))
    case hi1 => exact ⟨by omega, okD.app x, lenD.app (by have := hsm.2.1; omega) (by have := hsm.2.2.1; omega), by have := dap_len D x; show (dapD D x).length ≤ k + 1; omega, by show (2 : Int) ≤ nx + 1; omega⟩
    case hm1 => simp only; omega
  obtain rfl : k = l.length := by omega
  clear hlt hkl
  refine RunB ?_ trivial trivial (⟨Try.func43, rfl, rfl⟩ : Inl Try.prog 43 _ _ _) trivial trivial trivial trivial trivial trivial trivial trivial trivial
  with_reducible apply AOPS_call
  case hf => rfl
  case ha => rfl
  case h => exact mclone_calls (kvs := dcA D) (by simp only [alook, if_true])
  case hc => exact (fun vs w => by kernel_rfl)
  rintro _ _ ⟨rfl, rfl⟩
  simp only [aput, List.set_cons_succ, List.set_cons_zero]
  have a1 := dall_sys D okD (by omega) 1 0
  have a2 := madeD_val D (by omega)
  refine RunB ?_ trivial trivial trivial trivial trivial trivial trivial trivial trivial trivial trivial trivial
  simp only [aone]
  refine AWP_loopW [4, 11, 46, 47, 48, 49, 50, 51, 52, 53, 54, 55, 56] (N := Nat × Int × Dm × List AV) (fun ⟨k, ny, D2, js⟩ => [js.getD 0 .und, js.getD 1 .und, .int .i64 (k : Int), js.getD 2 .und, js.getD 3 .und, js.getD 4 .und, js.getD 5 .und, js.getD 6 .und, js.getD 7 .und, js.getD 8 .und, js.getD 9 .und, js.getD 10 .und, js.getD 11 .und]) (fun ⟨k, ny, D2, js⟩ => ⟨[(nx + 1, [.map nx]), (1, [.map 0])], [(nx, mpD D2), (0, mpD D)], ny⟩) (fun ⟨k, ny, D2, js⟩ => k ≤ l2.length ∧ DmOk D2 ∧ DmLen D2 ∧ D2.length ≤ D.length + k ∧ nx + 1 < ny) (fun ⟨k, ny, D2, js⟩ => l2.length - k) ⟨0, nx + 1 + 1, D, [_, _, _, _, _, _, _, _, _, _, _, _]⟩ rfl ?hs0 ?hi0 ?_
  rotate_left 2
  rintro ⟨k, ny, D2, js⟩ sl_ hs hi
  simp only [setsF, setF, Option.some.injEq] at hs
  subst hs
  case hs0 => exact ASub.refl _
  case hi0 => exact ⟨by omega, okD, lenD, by omega, by omega⟩
  obtain ⟨hkl, okE, lenE, hEk, hny⟩ := hi
  clear a1 a2
  by_cases hlt : k < l2.length
  · have hel : l2[k]? = some l2[k] := List.getElem?_eq_getElem hlt
    have hcl := enCs_load hel
    have hwl := hl2 _ (List.getElem_mem hlt)
    generalize l2[k] = x at hel hcl hwl
    have hS := smallE_val x hwl
    by_cases hsm : SmallE x
    case neg =>
      rw [decide_eq_false hsm] at hS
      refine RunB ?_ trivial trivial trivial trivial trivial trivial trivial trivial trivial trivial trivial trivial
      rfl
    rw [decide_eq_true hsm] at hS
    have q := dapply_sys D2 okE x hsm.mid (nx + 1) nx
    refine RunB ?_ trivial trivial trivial trivial trivial trivial trivial trivial trivial @wpCs_wk trivial trivial
    refine ALoopW_normal ⟨k + 1, ny + 1, dapD D2 x, [_, _, _, _, _, _, _, _, _, _, _, _]⟩ rfl ?hs1 ?hi1 ?hm1
    case hs1 => exact (ASub.refl _).drop (by simp only [alook]; repeat (first | rw [if_neg (by omega)]))
    case hi1 => exact ⟨by omega, okE.app x, lenE.app (by have := hsm.2.1; omega) (by have := hsm.2.2.1; omega), by have := dap_len D2 x; show (dapD D2 x).length ≤ D.length + (k + 1); omega, by show nx + 1 < ny + 1; omega⟩
    case hm1 => simp only; omega
  obtain rfl : k = l2.length := by omega
  clear hlt hkl
  refine RunB ?_ trivial trivial trivial trivial trivial trivial trivial trivial trivial trivial trivial trivial
  with_reducible apply AOPS_call
  case hf => rfl
  case ha => rfl
  case h => exact dallO_calls D D2 okE (by omega) (nx + 1) nx ny (by omega) (by omega) (by omega)
  case hc => exact (fun vs w => by kernel_rfl)
  rintro _ _ ⟨E, t, nz, rfl, rfl, hE, hnd, hid, htz, hnt⟩
  simp only [aput, List.set_cons_succ, List.set_cons_zero]
  have hEl : E.length = D2.length := by rw [← hE, List.length_map]
  refine RunB ?_ trivial trivial trivial trivial trivial trivial trivial trivial trivial trivial trivial trivial
  refine AWP_loopW [13, 14, 60, 61, 62, 63, 64, 65, 66, 67, 68, 69, 70, 71, 72, 73, 74, 75, 76, 77, 78] (N := Nat × Int × List AV) (fun ⟨k, n2, js⟩ => [js.getD 0 .und, js.getD 1 .und, .int .i64 (k : Int), js.getD 2 .und, js.getD 3 .und, js.getD 4 .und, js.getD 5 .und, js.getD 6 .und, js.getD 7 .und, js.getD 8 .und, js.getD 9 .und, js.getD 10 .und, js.getD 11 .und, js.getD 12 .und, js.getD 13 .und, js.getD 14 .und, js.getD 15 .und, js.getD 16 .und, js.getD 17 .und, js.getD 18 .und, js.getD 19 .und]) (fun ⟨k, n2, js⟩ => ⟨(nx + 1, [.map nx]) :: (1, [.map 0]) :: gO (E.drop k), [(t, E.length), (nx, mpD D2), (0, mpD D)], n2⟩) (fun ⟨k, n2, js⟩ => k ≤ E.length ∧ nz ≤ n2) (fun ⟨k, n2, js⟩ => E.length - k) ⟨0, nz, [_, _, _, _, _, _, _, _, _, _, _, _, _, _, _, _, _, _, _, _]⟩ rfl ?hs0 ?hi0 ?_
  rotate_left 2
  rintro ⟨k, n2, js⟩ sl_ hs hi
  simp only [setsF, setF, Option.some.injEq] at hs
  subst hs
  case hs0 => exact ASub.refl _
  case hi0 => exact ⟨by omega, by omega⟩
  obtain ⟨hk, hn2⟩ := hi
  by_cases hlt : k < E.length
  · have hel : E[k]? = some E[k] := List.getElem?_eq_getElem hlt
    have hgl := gC_load hel
    have hdr : E.drop k = E[k] :: E.drop (k + 1) := List.drop_eq_getElem_cons hlt
    have hidk := hid _ (List.getElem_mem hlt)
    have hxl := (lenE _ (hE ▸ List.mem_map_of_mem (List.getElem_mem hlt) : (E[k]).1 ∈ D2)).2
    generalize E[k] = x at hel hgl hidk hdr hxl
    obtain ⟨⟨xn, xv⟩, id, kp⟩ := x
    simp only at hgl hidk hxl
    refine AWP_steq (σ' := ⟨(nx + 1, [.map nx]) :: (1, [.map 0]) :: (id, xv.map bvA ++ anys kp) :: gO (E.drop (k + 1)), [(t, E.length), (nx, mpD D2), (0, mpD D)], n2⟩) (by simp only [hdr, gO, List.map_cons]) ?_
    refine RunB ?_ trivial trivial trivial trivial trivial trivial trivial trivial trivial trivial trivial trivial
    refine AWP_loopW [14, 67, 68, 69, 70, 71, 72, 73, 74, 75, 76, 77] (N := Nat × Nm × List AV) (fun ⟨i, bl, js⟩ => [js.getD 0 .und, .int .i64 (i : Int), js.getD 1 .und, js.getD 2 .und, js.getD 3 .und, js.getD 4 .und, js.getD 5 .und, js.getD 6 .und, js.getD 7 .und, js.getD 8 .und, js.getD 9 .und, js.getD 10 .und]) (fun ⟨i, bl, js⟩ => ⟨(n2, [bsA xn, .buf id 0 xv.length (xv.length + kp)]) :: (nx + 1, [.map nx]) :: (1, [.map 0]) :: (id, bl.map bvA ++ anys kp) :: gO (E.drop (k + 1)), [(t, E.length), (nx, mpD D2), (0, mpD D)], n2 + 1⟩) (fun ⟨i, bl, js⟩ => i ≤ xv.length ∧ bl.length = xv.length) (fun ⟨i, bl, js⟩ => xv.length - i) ⟨0, xv, [_, _, _, _, _, _, _, _, _, _, _]⟩ rfl ?hs0 ?hi0 ?_
    rotate_left 2
    rintro ⟨i, bl, js⟩ sl_ hs hi
    simp only [setsF, setF, Option.some.injEq] at hs
    subst hs
    case hs0 => exact ASub.refl _
    case hi0 => exact ⟨by omega, rfl⟩
    obtain ⟨hi1, hbl⟩ := hi
    by_cases hlt2 : i < xv.length
    · have hb1 : (bl.map bvA ++ anys kp)[i]? = some (bvA (bl[i]'(by omega))) := by rw [List.getElem?_append_left (by rw [List.length_map]; omega), List.getElem?_map, List.getElem?_eq_getElem (by omega)]; rfl
      refine RunB ?_ trivial trivial trivial trivial trivial trivial trivial trivial trivial trivial trivial trivial
      refine ALoopW_normal ⟨i + 1, bl.set i (bl[i]'(by omega) ^^^ 255), [_, _, _, _, _, _, _, _, _, _, _]⟩ rfl ?hs1 ?hi1 ?hm1
      case hs1 =>
        dsimp only
        have h1 : (bl.map bvA ++ anys kp).set i (.int .u8 (bits .xor .u8 (bl[i].toNat : Int) 255)) = (bl.set i (bl[i] ^^^ 255)).map bvA ++ anys kp := by
          rw [List.set_append_left _ _ (by rw [List.length_map]; omega), List.map_set]
          exact congrArg (fun z => (bl.map bvA).set i (.int .u8 z) ++ anys kp) (bits_xor8 _ 255)
        rw [h1]
        exact ASub.refl _
      case hi1 => exact ⟨by omega, by rw [List.length_set]; exact hbl⟩
      case hm1 => simp only; omega
    obtain rfl : i = xv.length := by omega
    refine RunB ?_ trivial trivial trivial trivial trivial trivial trivial trivial trivial trivial trivial trivial
    refine ALoopW_normal ⟨k + 1, n2 + 1, [_, _, _, _, _, _, _, _, _, _, _, _, _, _, _, _, _, _, _, _]⟩ rfl ?hs2 ?hi2 ?hm2
    case hs2 =>
      have hnd2 := hnd.sublist ((List.drop_sublist k E).map fun e : GE => e.2.1)
      rw [hdr, List.map_cons, List.nodup_cons] at hnd2
      exact gO_sub2 (by omega) (by omega) (gO_out fun e he => by have := hid e (List.mem_of_mem_drop he); omega) (gO_out fun e he h => hnd2.1 (List.mem_map.2 ⟨e, he, h⟩))
    case hi2 => exact ⟨by omega, by omega⟩
    case hm2 => simp only; omega
  obtain rfl : k = E.length := by omega
  refine AWP_steq (σ' := ⟨[(nx + 1, [.map nx]), (1, [.map 0])], [(t, E.length), (nx, mpD D2), (0, mpD D)], n2⟩) (by simp only [List.drop_length, gO, List.map_nil]) ?_
  have c1 := dall_sys D okD (by omega) 1 0
  have c2 := madeD_val D (by omega)
  have c3 := refSame11_val D D lenD lenD (by omega) (by omega)
  rw [decide_eq_true rfl] at c3
  have c4 := dsame_sys D D2 okD okE 1 (nx + 1) 0 nx
  have c5 := refSame11_val D D2 lenD lenE (by omega) (by omega)
  have c6 := dall_sys D2 okE (by omega) (nx + 1) nx
  have c7 := madeD_val D2 (by omega)
  refine RunB ?_ trivial trivial (⟨Try.func43, rfl, rfl⟩ : Inl Try.prog 43 _ _ _) trivial trivial trivial trivial trivial trivial trivial trivial trivial
  with_reducible apply AOPS_call
  case hf => rfl
  case ha => rfl
  case h => exact mclone_calls (kvs := dcA D2) (by simp only [alook]; rw [if_neg (by omega)]; simp only [if_true])
  case hc => exact (fun vs w => by kernel_rfl)
  rintro _ _ ⟨rfl, rfl⟩
  simp only [aput, List.set_cons_succ, List.set_cons_zero]
  have c8 := dsame_sys D2 D2 okE okE (nx + 1) (n2 + 1) nx n2
  rw [decide_eq_true rfl] at c8
  refine RunB ?_ trivial trivial trivial trivial trivial trivial trivial trivial trivial trivial trivial trivial
  simp only [aone]
  refine RunB ?_ trivial trivial trivial trivial trivial trivial trivial trivial trivial trivial trivial trivial
  rfl
theorem DocsClones_walk (w : World) (A : Option Addr) (n c : Nat) (l : List En) (hl : RSlice 9 REn w [.slice A n c] l) (A2 : Option Addr) (n2 c2 : Nat) (l2 : List En) (hl2 : RSlice 9 REn w [.slice A2 n2 c2] l2) : Calls Try.prog 12 #[.slice A n c, .slice A2 n2 c2] w (Tells w true) := by
  obtain ⟨h1, h2, h3⟩ := REntries.repsA hl
  obtain ⟨g1, g2, g3⟩ := REntries.repsA hl2
  exact (DocsClones_law l l2 h2 h3 g2 g3).tells (.cons h1 (.one g1))
end Go.Proofs.Ytnjkklkjlloedaa
