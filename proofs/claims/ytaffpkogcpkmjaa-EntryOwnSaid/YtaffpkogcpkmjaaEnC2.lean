/- entry: Encode, by the abstract machine. -/
import Derived.Test.YtaffpkogcpkmjaaEnC
namespace Go.Proofs.Ytaffpkogcpkmjaa
open Go.RowKit
set_option linter.unusedVariables false
set_option linter.unusedSimpArgs false
set_option maxRecDepth 10000
def enR (e : En) : AV := if EnOk e then okA (enB e) else erA 10
theorem enR_shut (e : En) : (enR e).shut = true := by unfold enR; split; exact okA_shut _; exact erA_shut _
set_option maxHeartbeats 8000000 in
theorem enencode_val (e : En) (hm : e.Mid) : AVal Try.prog 18 [enA e] (enR e) := by
  refine AVal.mkw (by simp only [AV.shutL, enA_shut, Bool.and_self]) (enR_shut _) ?_
  refine ACalls_body Try.func18 rfl rfl ?_
  simp only [Try.ntmps18, List.length_cons, List.length_nil, Nat.reduceAdd, Nat.reduceSub, List.replicate_succ, List.replicate_zero, List.cons_append, List.nil_append]
  have hR := enright_val e hm
  unfold enR
  by_cases hok : EnOk e
  · rw [decide_eq_true hok] at hR
    rw [if_pos hok]
    have hk1 := hok.1
    have hk2 := hok.2.1
    have hlen := hok.len
    have hP := @enput_val e hok
    unfold enP enP0 enP1 at hP hlen
    by_cases k1 : e.kind = 1
    · rw [if_pos k1] at hP
      have hP1 := hP (.tok 1 5 1) 5 rfl
      simp only [List.map_append, List.map_cons, List.map_nil, ptA] at hP1
      have hP2 := hP1
      simp only [List.cons_append, List.nil_append] at hP2
      refine Run ?_ trivial trivial trivial trivial trivial trivial trivial trivial trivial trivial trivial trivial
      simp [aone, AV.wk, AV.wkL, AV.wkL_bvA]
    rw [if_neg k1] at hP hlen
    by_cases k2 : e.kind = 2
    · rw [if_pos k2] at hP
      have hP1 := hP (.tok 1 4 1) 4 rfl
      simp only [List.map_append, List.map_cons, List.map_nil, ptA] at hP1
      have hP2 := hP1
      simp only [List.cons_append, List.nil_append] at hP2
      refine Run ?_ trivial trivial trivial trivial trivial trivial trivial trivial trivial trivial trivial trivial
      simp [aone, AV.wk, AV.wkL, AV.wkL_bvA]
    rw [if_neg k2] at hP hlen
    by_cases k3 : e.kind = 3
    · rw [if_pos k3] at hP
      have hP1 := hP (.tok 1 5 1) 5 rfl
      simp only [List.map_append, List.map_cons, List.map_nil, ptA] at hP1
      have hP2 := hP1
      simp only [List.cons_append, List.nil_append] at hP2
      refine Run ?_ trivial trivial trivial trivial trivial trivial trivial trivial trivial trivial trivial trivial
      simp [aone, AV.wk, AV.wkL, AV.wkL_bvA]
    rw [if_neg k3] at hP hlen
    by_cases k4 : e.kind = 4
    · rw [if_pos k4] at hP
      have hP1 := hP (.tok 1 4 1) 4 rfl
      simp only [List.map_append, List.map_cons, List.map_nil, ptA] at hP1
      have hP2 := hP1
      simp only [List.cons_append, List.nil_append] at hP2
      refine Run ?_ trivial trivial trivial trivial trivial trivial trivial trivial trivial trivial trivial trivial
      simp [aone, AV.wk, AV.wkL, AV.wkL_bvA]
    rw [if_neg k4] at hP hlen
    have k5 : e.kind = 5 := by omega
    have hw := hok.fields.2.2.2.2.2.2.2.2
    have hw16 := hw.2
    refine Run ?_ trivial trivial trivial trivial trivial trivial trivial trivial trivial trivial trivial trivial
    refine AWP_loopW [4, 6, 73, 74, 75, 76, 77, 78, 79, 80, 81, 82, 83, 84, 85, 86, 87, 88] (N := Nat × Nat × List AV × Int × List AV) (fun ⟨k, n, cs, nx, js⟩ => [.sl (.tok 1 n 1) cs n, js.getD 0 .und, wrA e.wraps, .int .i64 (e.wraps.length : Int), .int .i64 (k : Int), js.getD 1 .und, js.getD 2 .und, js.getD 3 .und, js.getD 4 .und, js.getD 5 .und, js.getD 6 .und, js.getD 7 .und, js.getD 8 .und, js.getD 9 .und, js.getD 10 .und, js.getD 11 .und, js.getD 12 .und, js.getD 13 .und]) (fun ⟨k, n, cs, nx, js⟩ => ⟨[(0, enC e)], [(1, n)], nx⟩) (fun ⟨k, n, cs, nx, js⟩ => k ≤ e.wraps.length ∧ n = 5 + 2 * k ∧ cs = (enP0 e ++ (([Sum.inl e.epoch, Sum.inl (e.wraps.length : Int)] : List Pt) ++ (e.wraps.take k).flatMap wpP)).map ptA ∧ 2 ≤ nx) (fun ⟨k, n, cs, nx, js⟩ => e.wraps.length - k) ⟨0, 5, _, 2, [_, _, _, _, _, _, _, _, _, _, _, _, _, _]⟩ rfl ?hs0 ?hi0 ?_
    rotate_left 2
    rintro ⟨k, n, cs, nx, js⟩ sl_ hs hi
    simp only [setsF, setF, Option.some.injEq] at hs
    subst hs
    case hs0 => exact ASub.refl _
    case hi0 => exact ⟨by omega, by omega, rfl, by omega⟩
    obtain ⟨hk, hn, hcs, hnx⟩ := hi
    by_cases hlt : k < e.wraps.length
    · have hel : e.wraps[k]? = some e.wraps[k] := List.getElem?_eq_getElem hlt
      have hcl := wpCs_load hel
      generalize hx : e.wraps[k] = x at *
      refine Run ?_ trivial trivial trivial trivial trivial trivial trivial trivial trivial trivial trivial trivial
      refine ALoopW_normal ⟨k + 1, _, _, nx + 1, [_, _, _, _, _, _, _, _, _, _, _, _, _, _]⟩ rfl ?hs1 ?hi1 ?hm1
      case hs1 => exact (ASub.refl _).drop (by simp only [alook]; rw [if_neg (by omega)])
      case hi1 =>
        refine ⟨by omega, by omega, ?_, by omega⟩
        rw [List.take_add_one, hel, hcs]
        simp only [Option.toList_some, List.flatMap_append, List.flatMap_cons, List.flatMap_nil, List.append_nil, List.map_append, List.map_cons, List.map_nil, ptA, wpP, List.append_assoc]
      case hm1 => simp only; omega
    · obtain rfl : k = e.wraps.length := by omega
      rw [List.take_length] at hcs
      have hP1 := hP (.tok 1 n 1) n (by
        have := flatMap_len2 wpP (fun _ => rfl) e.wraps
        simp only [List.length_append, List.length_cons, List.length_nil, this]
        omega)
      unfold enP0 at hcs
      rw [← hcs] at hP1
      refine Run ?_ trivial trivial trivial trivial trivial trivial trivial trivial trivial trivial trivial trivial
      simp [aone, AV.wk, AV.wkL, AV.wkL_bvA]
  · rw [decide_eq_false hok] at hR
    rw [if_neg hok]
    refine Run ?_ trivial trivial trivial trivial trivial trivial trivial trivial trivial trivial trivial trivial
    simp [aone, AV.wk, AV.wkL]
end Go.Proofs.Ytaffpkogcpkmjaa
