/- Law 9: SmallEntry, and entries as the document has them. -/
import Derived.Test.YtnjkklkjlloedaaEnB
import Derived.Test.YtnjkklkjlloedaaRfE1
namespace Go.Proofs.Ytnjkklkjlloedaa
open Go.RowKit
set_option linter.unusedVariables false
set_option linter.unusedSimpArgs false
set_option maxRecDepth 10000
def SmallE (e : En) : Prop := (∀ w ∈ e.wraps, w.box.length ≤ 100) ∧ e.name.length ≤ 100 ∧ e.value.length ≤ 600 ∧ e.wraps.length ≤ 20
instance (e : En) : Decidable (SmallE e) := by unfold SmallE; infer_instance
theorem SmallE.mid {e : En} (h : SmallE e) : e.Mid := ⟨by have := h.2.1; omega, by have := h.2.2.1; omega, by have := h.2.2.2; omega, fun w hw => by have := h.1 w hw; omega⟩
theorem take_succ_allW {ws : List Wp} {k : Nat} {x : Wp} (hel : ws[k]? = some x) {p : Wp → Prop} (h : ∀ b ∈ ws.take k, p b) (hx : p x) : ∀ b ∈ ws.take (k + 1), p b := by
  intro b hb
  rw [List.take_add_one, hel] at hb
  rcases List.mem_append.1 hb with hb | hb
  · exact h b hb
  · simp only [Option.toList_some, List.mem_singleton] at hb; subst hb; exact hx
set_option maxHeartbeats 4000000 in
theorem smallE_val (e : En) (hm : e.wraps.length ≤ 9223372036854775807) : AVal Try.prog 27 [enA e] (.bool (decide (SmallE e))) := by
  refine AVal.mkw (by simp only [AV.shutL, enA_shut, Bool.and_self]) (by simp [AV.shut]) ?_
  refine ACalls_body Try.func27 rfl rfl ?_
  simp only [Try.ntmps27, List.length_cons, List.length_nil, Nat.reduceAdd, Nat.reduceSub, List.replicate_succ, List.replicate_zero, List.cons_append, List.nil_append]
  refine Run ?_ trivial trivial trivial trivial trivial trivial trivial trivial trivial trivial trivial trivial
  refine AWP_loopW [2, 4, 6, 7, 8, 9, 10, 11, 12, 13, 14, 15, 16] (N := Nat × Int × List AV) (fun ⟨k, nx, js⟩ => [js.getD 0 .und, js.getD 1 .und, wrA e.wraps, .int .i64 (e.wraps.length : Int), .int .i64 (k : Int), js.getD 2 .und, js.getD 3 .und, js.getD 4 .und, js.getD 5 .und, js.getD 6 .und, js.getD 7 .und, js.getD 8 .und, js.getD 9 .und]) (fun ⟨k, nx, js⟩ => ⟨[(0, enC e)], [], nx⟩) (fun ⟨k, nx, js⟩ => k ≤ e.wraps.length ∧ (∀ b ∈ e.wraps.take k, b.box.length ≤ 100) ∧ 1 ≤ nx) (fun ⟨k, nx, js⟩ => e.wraps.length - k) ⟨0, 1, [_, _, _, _, _, _, _, _, _, _]⟩ rfl ?hs0 ?hi0 ?_
  rotate_left 2
  rintro ⟨k, nx, js⟩ sl_ hs hi
  simp only [setsF, setF, Option.some.injEq] at hs
  subst hs
  case hs0 => exact ASub.refl _
  case hi0 => exact ⟨by omega, by simp, by omega⟩
  obtain ⟨hk, hn, hnx⟩ := hi
  by_cases hlt : k < e.wraps.length
  · have hel : e.wraps[k]? = some e.wraps[k] := List.getElem?_eq_getElem hlt
    have hcl := wpCs_load hel
    generalize hx : e.wraps[k] = x at *
    by_cases h1 : x.box.length ≤ 100
    · refine Run ?_ trivial trivial trivial trivial trivial trivial trivial trivial trivial trivial trivial trivial
      refine ALoopW_normal ⟨k + 1, nx + 1, [_, _, _, _, _, _, _, _, _, _]⟩ rfl ?hs1 ?hi1 ?hm1
      case hs1 => exact (ASub.refl _).drop (by simp only [alook]; repeat (first | rw [if_neg (by omega)]))
      case hi1 => exact ⟨by omega, take_succ_allW hel hn h1, by omega⟩
      case hm1 => simp only; omega
    · rw [decide_eq_false (fun h => h1 (h.1 x (List.mem_of_getElem? hel)))]
      refine Run ?_ trivial trivial trivial trivial trivial trivial trivial trivial trivial trivial trivial trivial
      rfl
  · obtain rfl : k = e.wraps.length := by omega
    rw [List.take_length] at hn
    have hF : SmallE e ↔ e.name.length ≤ 100 ∧ e.value.length ≤ 600 ∧ e.wraps.length ≤ 20 := ⟨fun h => h.2, fun h => ⟨hn, h⟩⟩
    refine Run trivial trivial trivial trivial trivial trivial trivial trivial trivial trivial trivial hF Split.ok
set_option maxHeartbeats 4000000 in
theorem madeE_val (e : En) (hm : e.wraps.length ≤ 1000) : AVal Try.prog 34 [enA e] (enA e) := by
  refine AVal.mkw (by simp only [AV.shutL, enA_shut, Bool.and_self]) (enA_shut _) ?_
  refine ACalls_body Try.func34 rfl rfl ?_
  simp only [Try.ntmps34, List.length_cons, List.length_nil, Nat.reduceAdd, Nat.reduceSub, List.replicate_succ, List.replicate_zero, List.cons_append, List.nil_append]
  refine Run ?_ trivial trivial trivial trivial trivial trivial trivial trivial trivial trivial trivial trivial
  refine AWP_adoptO 2 8 2 rfl rfl rfl rfl ?_
  refine AWP_loopW [5, 24, 25, 26, 27, 28, 29, 30, 31, 32, 33, 34, 35, 36] (N := Nat × Nat × List AV × Int × List AV) (fun ⟨k, n, cs, nx, js⟩ => [js.getD 0 .und, wrA e.wraps, .int .i64 (e.wraps.length : Int), .int .i64 (k : Int), js.getD 1 .und, js.getD 2 .und, js.getD 3 .und, js.getD 4 .und, js.getD 5 .und, js.getD 6 .und, js.getD 7 .und, js.getD 8 .und, js.getD 9 .und, js.getD 10 .und]) (fun ⟨k, n, cs, nx, js⟩ => ⟨[(2, [.int .i64 e.kind, .int .i64 e.writer, .int .i64 e.seq, bsA e.name, bsA e.value, .int .i64 e.who, .int .i64 e.rights, .int .i64 e.epoch, .sl (.tok 3 n 2) cs n]), (1, [.int .i64 0, .int .i64 0, .int .i64 0, .nils, .nils, .int .i64 0, .int .i64 0, .int .i64 0, .nils]), (0, enC e)], [(3, n)], nx⟩) (fun ⟨k, n, cs, nx, js⟩ => k ≤ e.wraps.length ∧ cs = wpCs (e.wraps.take k) ∧ n = k ∧ 4 ≤ nx) (fun ⟨k, n, cs, nx, js⟩ => e.wraps.length - k) ⟨0, 0, [], 4, [_, _, _, _, _, _, _, _, _, _, _]⟩ rfl ?hs0 ?hi0 ?_
  rotate_left 2
  rintro ⟨k, n, cs, nx, js⟩ sl_ hs hi
  simp only [setsF, setF, Option.some.injEq] at hs
  subst hs
  case hs0 => exact ASub.refl _
  case hi0 => exact ⟨by omega, rfl, rfl, by omega⟩
  obtain ⟨hk, hcs, hn, hnx⟩ := hi
  by_cases hlt : k < e.wraps.length
  · have hel : e.wraps[k]? = some e.wraps[k] := List.getElem?_eq_getElem hlt
    have hcl := wpCs_load hel
    have hs1 : wpCs (e.wraps.take (k + 1)) = wpCs (e.wraps.take k) ++ [.int .i64 e.wraps[k].who, bsA e.wraps[k].box] := by
      rw [List.take_add_one, hel, Option.toList_some]
      unfold wpCs
      rw [List.flatMap_append]
      rfl
    generalize hx : e.wraps[k] = x at *
    refine Run ?_ trivial trivial trivial trivial trivial trivial trivial trivial trivial trivial trivial trivial
    refine ALoopW_normal ⟨k + 1, n + 1, cs ++ [.int .i64 x.who, bsA x.box], nx + 1, [_, _, _, _, _, _, _, _, _, _, _]⟩ rfl ?hs1 ?hi1 ?hm1
    case hs1 => exact (ASub.refl _).drop (by simp only [alook]; repeat (first | rw [if_neg (by omega)]))
    case hi1 => exact ⟨by omega, by rw [hs1, hcs], by omega, by omega⟩
    case hm1 => simp only; omega
  · obtain rfl : k = e.wraps.length := by omega
    rw [List.take_length] at hcs
    subst hcs hn
    refine Run ?_ trivial trivial trivial trivial trivial trivial trivial trivial trivial trivial trivial trivial
    simp only [aone, AV.wk, AV.wkL, AV.wkL_bvA, wpCs_wk]
end Go.Proofs.Ytnjkklkjlloedaa
