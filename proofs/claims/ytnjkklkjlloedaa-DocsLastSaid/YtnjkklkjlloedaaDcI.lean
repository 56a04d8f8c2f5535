/- Law 11: DocsLast. -/
import Derived.Test.YtnjkklkjlloedaaDcF
import Derived.Test.YtnjkklkjlloedaaLkS
namespace Go.Proofs.Ytnjkklkjlloedaa
open Go.RowKit
set_option linter.unusedVariables false
set_option linter.unusedSimpArgs false
set_option maxRecDepth 10000
theorem dap_get {D : Dm} {e : En} {nm : Nm} (h : e.name ≠ nm) : dget (dapD D e) nm = dget D nm := by
  unfold dapD
  split
  · rw [dget_put, if_neg (Ne.symm h)]
  · split
    · rw [dget_del, if_neg (Ne.symm h)]
    · rfl
set_option maxHeartbeats 20000000 in
theorem DocsLast_law (nm : Nm) (vs : List Nm) (l : List En) (hv : vs.length ≤ 9223372036854775807) (hm : l.length ≤ 9223372036854775807) (hl : ∀ e ∈ l, e.wraps.length ≤ 9223372036854775807) : ACalls Try.prog 10 [.str nm, stA2 vs, ensA l] ⟨[], [], 0⟩ (fun rv _ => rv = .bool true) := by
  refine ACalls_body Try.func10 rfl rfl ?_
  simp only [Try.ntmps10, List.length_cons, List.length_nil, Nat.reduceAdd, Nat.reduceSub, List.replicate_succ, List.replicate_zero, List.cons_append, List.nil_append]
  have ha := anchor11_val
  by_cases b1 : nm.length < 1
  · refine RunB ?_ trivial trivial trivial trivial trivial trivial trivial trivial trivial trivial trivial trivial
    rfl
  by_cases b2 : 64 < nm.length
  · refine RunB ?_ trivial trivial trivial trivial trivial trivial trivial trivial trivial trivial trivial trivial
    rfl
  by_cases b3 : vs.length < 1
  · refine RunB ?_ trivial trivial trivial trivial trivial trivial trivial trivial trivial trivial trivial trivial
    rfl
  by_cases b4 : 10 < vs.length
  · refine RunB ?_ trivial trivial trivial trivial trivial trivial trivial trivial trivial trivial trivial trivial
    rfl
  by_cases b5 : 10 < l.length
  · refine RunB ?_ trivial trivial trivial trivial trivial trivial trivial trivial trivial trivial trivial trivial
    rfl
  refine RunB ?_ trivial trivial (⟨Try.func29, rfl, rfl⟩ : Inl Try.prog 29 _ _ _) trivial trivial trivial trivial trivial trivial trivial trivial trivial
  refine AWP_loopW [6, 8, 9, 44, 45, 46, 47, 48, 49, 50, 51, 52, 53, 54, 55, 56, 57, 58, 59, 60, 61, 62, 63, 64, 65, 66, 67, 68, 69, 70, 71, 72, 73, 74, 75, 76, 77, 78, 79, 80, 81, 82, 83, 84, 85, 86, 87, 88, 89, 90] (N := Nat × Int × Dm × List AV) (fun ⟨k, nx, D, js⟩ => [js.getD 0 .und, js.getD 1 .und, js.getD 2 .und, .int .i64 (k : Int), js.getD 3 .und, js.getD 4 .und, js.getD 5 .und, js.getD 6 .und, js.getD 7 .und, js.getD 8 .und, js.getD 9 .und, js.getD 10 .und, js.getD 11 .und, js.getD 12 .und, js.getD 13 .und, js.getD 14 .und, js.getD 15 .und, js.getD 16 .und, js.getD 17 .und, js.getD 18 .und, js.getD 19 .und, js.getD 20 .und, js.getD 21 .und, js.getD 22 .und, js.getD 23 .und, js.getD 24 .und, js.getD 25 .und, js.getD 26 .und, js.getD 27 .und, js.getD 28 .und, js.getD 29 .und, js.getD 30 .und, js.getD 31 .und, js.getD 32 .und, js.getD 33 .und, js.getD 34 .und, js.getD 35 .und, js.getD 36 .und, js.getD 37 .und, js.getD 38 .und, js.getD 39 .und, js.getD 40 .und, js.getD 41 .und, js.getD 42 .und, js.getD 43 .und, js.getD 44 .und, js.getD 45 .und, js.getD 46 .und, js.getD 47 .und, js.getD 48 .und]) (fun ⟨k, nx, D, js⟩ => ⟨[(1, [.map 0])], [(0, mpD D)], nx⟩) (fun ⟨k, nx, D, js⟩ => k ≤ vs.length ∧ DmOk D ∧ (0 < k → dget D nm = vs[k - 1]?) ∧ 2 ≤ nx) (fun ⟨k, nx, D, js⟩ => vs.length - k) ⟨0, 2, [], [_, _, _, _, _, _, _, _, _, _, _, _, _, _, _, _, _, _, _, _, _, _, _, _, _, _, _, _, _, _, _, _, _, _, _, _, _, _, _, _, _, _, _, _, _, _, _, _, _]⟩ rfl ?hs0 ?hi0 ?_
  rotate_left 2
  rintro ⟨k, nx, D, js⟩ sl_ hs hi
  simp only [setsF, setF, Option.some.injEq] at hs
  subst hs
  case hs0 => exact ASub.refl _
  case hi0 => exact ⟨by omega, DmOk.nil, (fun h => by omega), by omega⟩
  obtain ⟨hkl, okD, hget, hnx⟩ := hi
  by_cases hlt : k < vs.length
  · have hel : vs[k]? = some vs[k] := List.getElem?_eq_getElem hlt
    generalize vs[k] = v at hel
    have hc : (vs.map AV.str)[k]? = some (.str v) := by rw [List.getElem?_map, hel]; rfl
    by_cases b6 : 512 < v.length
    · refine RunB ?_ trivial trivial trivial trivial trivial trivial trivial trivial trivial trivial trivial trivial
      rfl
    have p1 := put11_val nm v
    have k1 := putE_ok (nm := nm) (v := v) (by omega) (by omega) (by omega)
    have q1 := dapply_sys D okD (putE nm v) (putE_mid (by omega) (by omega)) 1 0
    rw [(dap_put k1 rfl).1, (dap_put k1 rfl).2] at q1
    have okD1 := okD.put nm v
    have hg1 : dget (dput D nm v) nm = some v := by rw [dget_put, if_pos rfl]
    generalize dput D nm v = D1 at q1 okD1 hg1
    by_cases hlo : k < l.length
    case neg =>
      refine RunB ?_ trivial trivial trivial trivial trivial trivial trivial trivial trivial @wpCs_wk trivial trivial
      refine ALoopW_normal ⟨k + 1, nx, D1, [_, _, _, _, _, _, _, _, _, _, _, _, _, _, _, _, _, _, _, _, _, _, _, _, _, _, _, _, _, _, _, _, _, _, _, _, _, _, _, _, _, _, _, _, _, _, _, _, _]⟩ rfl ?hs1 ?hi1 ?hm1
      case hs1 => exact ASub.refl _
      case hi1 => exact ⟨by omega, okD1, (fun _ => by rw [hg1]; exact hel.symm), hnx⟩
      case hm1 => simp only; omega
    have hle : l[k]? = some l[k] := List.getElem?_eq_getElem hlo
    have hcl := enCs_load hle
    have hwl := hl _ (List.getElem_mem hlo)
    have hnl : (enCs l)[k * 9 + 3]? = some (bsA l[k].name) := by
      have h1 : (enCs l)[k * 9 + 3]? = ((enCs l).drop (k * 9))[3]? := by rw [List.getElem?_drop]
      rw [h1, enCs_drop, List.drop_eq_getElem_cons hlo]
      rfl
    generalize l[k] = x at hle hcl hwl hnl
    have hS := smallE_val x hwl
    by_cases hsm : SmallE x
    case neg =>
      rw [decide_eq_false hsm] at hS
      refine RunB ?_ trivial trivial trivial trivial trivial trivial trivial trivial trivial @wpCs_wk trivial trivial
      refine ALoopW_normal ⟨k + 1, nx, D1, [_, _, _, _, _, _, _, _, _, _, _, _, _, _, _, _, _, _, _, _, _, _, _, _, _, _, _, _, _, _, _, _, _, _, _, _, _, _, _, _, _, _, _, _, _, _, _, _, _]⟩ rfl ?hs1 ?hi1 ?hm1
      case hs1 => exact ASub.refl _
      case hi1 => exact ⟨by omega, okD1, (fun _ => by rw [hg1]; exact hel.symm), hnx⟩
      case hm1 => simp only; omega
    rw [decide_eq_true hsm] at hS
    have hxn := hsm.2.1
    by_cases hne : x.name = nm
    · refine RunB ?_ trivial trivial trivial trivial trivial trivial trivial trivial trivial @wpCs_wk trivial trivial
      refine ALoopW_normal ⟨k + 1, nx, D1, [_, _, _, _, _, _, _, _, _, _, _, _, _, _, _, _, _, _, _, _, _, _, _, _, _, _, _, _, _, _, _, _, _, _, _, _, _, _, _, _, _, _, _, _, _, _, _, _, _]⟩ rfl ?hs1 ?hi1 ?hm1
      case hs1 => exact ASub.refl _
      case hi1 => exact ⟨by omega, okD1, (fun _ => by rw [hg1]; exact hel.symm), hnx⟩
      case hm1 => simp only; omega
    · have q2 := dapply_sys D1 okD1 x hsm.mid 1 0
      have okD2 := okD1.app x
      have hg2 := dap_get (D := D1) hne
      generalize dapD D1 x = D2 at q2 okD2 hg2
      refine RunB ?_ trivial trivial trivial trivial trivial trivial trivial trivial trivial @wpCs_wk trivial trivial
      refine ALoopW_normal ⟨k + 1, nx, D2, [_, _, _, _, _, _, _, _, _, _, _, _, _, _, _, _, _, _, _, _, _, _, _, _, _, _, _, _, _, _, _, _, _, _, _, _, _, _, _, _, _, _, _, _, _, _, _, _, _]⟩ rfl ?hs1 ?hi1 ?hm1
      case hs1 => exact ASub.refl _
      case hi1 => exact ⟨by omega, okD2, (fun _ => by rw [hg2, hg1]; exact hel.symm), hnx⟩
      case hm1 => simp only; omega
  obtain rfl : k = vs.length := by omega
  have hgv := hget (by omega)
  have hel : vs[vs.length - 1]? = some vs[vs.length - 1] := List.getElem?_eq_getElem (by omega)
  rw [hel] at hgv
  generalize vs[vs.length - 1] = v at hel hgv
  have g1 := dget_sys D okD nm (by omega) 1 0
  rw [hgv] at g1
  simp only [Option.getD_some, Option.isSome_some] at g1
  have d1 := drop11_val nm
  have k1 := dropE_ok (nm := nm) (by omega) (by omega)
  have hmid : (dropE nm).Mid := ⟨by show nm.length ≤ _; omega, by simp, by simp, fun x hx => by cases hx⟩
  have q1 := dapply_sys D okD (dropE nm) hmid 1 0
  rw [(dap_drop k1 rfl).1, (dap_drop k1 rfl).2, if_neg (by rw [hgv]; simp)] at q1
  have okD2 := okD.del nm
  have hg2 : dget (ddel D nm) nm = none := by rw [dget_del, if_pos rfl]
  generalize ddel D nm = D2 at q1 okD2 hg2
  have q2 := dapply_sys D2 okD2 (dropE nm) hmid 1 0
  have hdd : ddel D2 nm = D2 := by
    rcases dm_cases okD2 nm with ⟨_, _, h3, _⟩ | ⟨l1, w, l2, _, h2, _⟩
    · exact h3
    · rw [h2] at hg2; cases hg2
  rw [(dap_drop k1 rfl).1, (dap_drop k1 rfl).2, if_pos hg2] at q2
  simp only [hdd] at q2
  have g2 := dget_sys D2 okD2 nm (by omega) 1 0
  rw [hg2] at g2
  simp only [Option.getD_none, Option.isSome_none] at g2
  replace q2 := Lib.hid q2
  replace g2 := Lib.hid g2
  have hlv : (vs.map AV.str)[((vs.length : Int) - 1).toNat * 1]? = some (.str v) := by
    rw [show (((vs.length : Int) - 1).toNat * 1) = vs.length - 1 by omega, List.getElem?_map, hel]; rfl
  have hlv2 : (vs.map AV.str)[((vs.length : Int) - 1).toNat]? = some (.str v) := by
    rw [show (((vs.length : Int) - 1).toNat) = vs.length - 1 by omega, List.getElem?_map, hel]; rfl
  refine RunB ?_ trivial trivial trivial trivial trivial trivial trivial trivial trivial @wpCs_wk trivial trivial
  clear q1
  replace q2 := q2.out
  refine RunB ?_ trivial trivial trivial trivial trivial trivial trivial trivial trivial @wpCs_wk trivial trivial
  clear g1
  replace g2 := g2.out
  refine RunB ?_ trivial trivial trivial trivial trivial trivial trivial trivial trivial @wpCs_wk trivial trivial
  rfl
theorem open_strsD : Opens Try.prog 45 (RSlice 1 RStr) := opens_slice Try.underlying45 (by kernel_rfl) (by omega) (opens_string Try.underlying9)
theorem DocsLast_walk (w : World) (s : ByteArray) (hs : s.size ≤ maxLen) (A : Option Addr) (n c : Nat) (vs : List Nm) (hv : RSlice 1 RStr w [.slice A n c] vs) (A2 : Option Addr) (n2 c2 : Nat) (l : List En) (hl : RSlice 9 REn w [.slice A2 n2 c2] l) : Calls Try.prog 10 #[.string s, .slice A n c, .slice A2 n2 c2] w (Tells w true) := by
  obtain ⟨h1, h2, h3⟩ := REntries.repsA hl
  obtain ⟨g1, g2, _⟩ := RSlice.repsA1 AV.str RStr.repsA hv
  have hr : Reps MM.none w (.str s.data.toList) (.string s) := by unfold Reps; exact ⟨by cases s; simp, by rw [Array.length_toList]; exact hs⟩
  exact (DocsLast_law s.data.toList vs l g2 h2 h3).tells (.cons hr (.cons g1 (.one h1)))
end Go.Proofs.Ytnjkklkjlloedaa
