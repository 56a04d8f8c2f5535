/- The reference of layer 9 by the abstract machine: who, wraps. -/
import Derived.Test.YtnjkklkjlloedaaEnA
import Derived.Test.YtnjkklkjlloedaaRfA
namespace Go.Proofs.Ytnjkklkjlloedaa
open Go.RowKit
set_option linter.unusedVariables false
set_option linter.unusedSimpArgs false
set_option maxRecDepth 10000
theorem refWho_val (n : Int) : AVal Try.prog 67 [.int .i64 n] (.bool (decide (1 ≤ n ∧ n ≤ 16))) := by
  refine AVal.mkw (by simp [AV.shutL, AV.shut]) (by simp [AV.shut]) ?_
  refine ACalls_body Try.func67 rfl rfl ?_
  simp only [Try.ntmps67, List.length_cons, List.length_nil, Nat.reduceAdd, Nat.reduceSub, List.replicate_succ, List.replicate_zero, List.cons_append, List.nil_append]
  refine Run trivial trivial trivial trivial trivial trivial trivial trivial trivial trivial trivial trivial Split.ok
theorem wpCs_box {ws : List Wp} {k : Nat} {w : Wp} (h : ws[k]? = some w) : (wpCs ws)[k * 2 + 1]? = some (bsA w.box) := by
  obtain ⟨hk, rfl⟩ := List.getElem?_eq_some_iff.1 h
  have : (wpCs ws)[k * 2 + 1]? = ((wpCs ws).drop (k * 2))[1]? := by simp
  rw [this, wpCs_drop, List.drop_eq_getElem_cons hk]
  rfl
set_option maxHeartbeats 4000000 in
theorem refWraps_val (ws : List Wp) (hm : ws.length ≤ 9223372036854775807) : AVal Try.prog 68 [wrA ws] (.bool (decide (WrOk ws))) := by
  refine AVal.mkw (by simp only [AV.shutL, wrA_shut, Bool.and_self]) (by simp [AV.shut]) ?_
  refine ACalls_body Try.func68 rfl rfl ?_
  simp only [Try.ntmps68, List.length_cons, List.length_nil, Nat.reduceAdd, Nat.reduceSub, List.replicate_succ, List.replicate_zero, List.cons_append, List.nil_append]
  refine Run ?_ trivial trivial trivial trivial trivial trivial trivial trivial trivial trivial trivial trivial
  refine AWP_loopS [2, 3, 4, 5, 6, 7, 8, 9, 10, 11, 12, 13, 14, 15, 16, 17, 18, 19, 20, 21, 22, 23, 24, 25, 26, 27, 28, 29, 30, 31, 32, 33, 34, 35, 36, 37, 38, 39, 40, 41, 42, 43] (N := Nat × List AV) (fun ⟨k, js⟩ => [js.getD 0 .und, .int .i64 (k : Int), js.getD 1 .und, js.getD 2 .und, js.getD 3 .und, js.getD 4 .und, js.getD 5 .und, js.getD 6 .und, js.getD 7 .und, js.getD 8 .und, js.getD 9 .und, js.getD 10 .und, js.getD 11 .und, js.getD 12 .und, js.getD 13 .und, js.getD 14 .und, js.getD 15 .und, js.getD 16 .und, js.getD 17 .und, js.getD 18 .und, js.getD 19 .und, js.getD 20 .und, js.getD 21 .und, js.getD 22 .und, js.getD 23 .und, js.getD 24 .und, js.getD 25 .und, js.getD 26 .und, js.getD 27 .und, js.getD 28 .und, js.getD 29 .und, js.getD 30 .und, js.getD 31 .und, js.getD 32 .und, js.getD 33 .und, js.getD 34 .und, js.getD 35 .und, js.getD 36 .und, js.getD 37 .und, js.getD 38 .und, js.getD 39 .und, js.getD 40 .und]) (fun ⟨k, js⟩ => ⟨[], [], 0⟩) (fun ⟨k, js⟩ => k ≤ ws.length ∧ ∀ j, j < k → wrAt ws j (ws.getD j ⟨0, []⟩)) (fun ⟨k, js⟩ => ws.length - k) ⟨0, [_, _, _, _, _, _, _, _, _, _, _, _, _, _, _, _, _, _, _, _, _, _, _, _, _, _, _, _, _, _, _, _, _, _, _, _, _, _, _, _, _]⟩ rfl rfl ?hi0 ?_
  rotate_left
  rintro ⟨k, js⟩ sl_ hs hi
  simp only [setsF, setF, Option.some.injEq] at hs
  subst hs
  case hi0 => exact ⟨by omega, fun j hj => by omega⟩
  obtain ⟨hk, hn⟩ := hi
  by_cases hlt : k < ws.length
  · have hel : ws[k]? = some ws[k] := List.getElem?_eq_getElem hlt
    have hgd : ws.getD k ⟨0, []⟩ = ws[k] := getD_of hel
    generalize hx : ws[k] = x at *
    have hc0 : (wpCs ws)[k * 2 + 0]? = some (.int .i64 x.who) := wpCs_who hel
    have hc1 : (wpCs ws)[k * 2 + 1]? = some (bsA x.box) := wpCs_box hel
    have hW := refWho_val x.who
    have hno : ∀ (b : Prop), ¬ wrAt ws k x → ¬ WrOk ws := fun _ h h2 => h (by rw [← hgd]; exact h2.1 k hlt)
    have hcp : 0 < k → (wpCs ws)[((k : Int) - 1).toNat * 2 + 0]? = some (.int .i64 (prevWho ws k)) := by
      intro h0
      have hlt' : k - 1 < ws.length := by omega
      have hel' : ws[k - 1]? = some ws[k - 1] := List.getElem?_eq_getElem hlt'
      rw [show ((k : Int) - 1).toNat * 2 + 0 = (k - 1) * 2 by omega, wpCs_who hel']
      unfold prevWho
      rw [if_neg (by omega), getD_of hel']
    by_cases h1 : 1 ≤ x.who ∧ x.who ≤ 16
    · rw [decide_eq_true h1] at hW
      by_cases h2 : x.box.length = 48
      · by_cases h0 : k = 0
        · have hok : wrAt ws k x := ⟨h1.1, h1.2, h2, by unfold prevWho; rw [if_pos h0]; omega⟩
          refine Run ?_ trivial trivial trivial trivial trivial trivial trivial trivial trivial trivial trivial trivial
          refine ALoopQ_normal ⟨k + 1, [_, _, _, _, _, _, _, _, _, _, _, _, _, _, _, _, _, _, _, _, _, _, _, _, _, _, _, _, _, _, _, _, _, _, _, _, _, _, _, _, _]⟩ rfl rfl ?hi1 ?hm1
          case hi1 => exact ⟨by omega, fun j hj => by
            by_cases hjk : j = k
            · rw [hjk, hgd]; exact hok
            · exact hn j (by omega)⟩
          case hm1 => simp only; omega
        · have hcp' := hcp (by omega)
          by_cases h3 : prevWho ws k < x.who
          · have hok : wrAt ws k x := ⟨h1.1, h1.2, h2, h3⟩
            refine Run ?_ trivial trivial trivial trivial trivial trivial trivial trivial trivial trivial trivial trivial
            refine ALoopQ_normal ⟨k + 1, [_, _, _, _, _, _, _, _, _, _, _, _, _, _, _, _, _, _, _, _, _, _, _, _, _, _, _, _, _, _, _, _, _, _, _, _, _, _, _, _, _]⟩ rfl rfl ?hi1 ?hm1
            case hi1 => exact ⟨by omega, fun j hj => by
              by_cases hjk : j = k
              · rw [hjk, hgd]; exact hok
              · exact hn j (by omega)⟩
            case hm1 => simp only; omega
          · rw [decide_eq_false (hno True fun h => h3 h.2.2.2)]
            refine Run ?_ trivial trivial trivial trivial trivial trivial trivial trivial trivial trivial trivial trivial
            rfl
      · rw [decide_eq_false (hno True fun h => h2 h.2.2.1)]
        refine Run ?_ trivial trivial trivial trivial trivial trivial trivial trivial trivial trivial trivial trivial
        rfl
    · rw [decide_eq_false h1] at hW
      rw [decide_eq_false (hno True fun h => h1 ⟨h.1, h.2.1⟩)]
      refine Run ?_ trivial trivial trivial trivial trivial trivial trivial trivial trivial trivial trivial trivial
      rfl
  · obtain rfl : k = ws.length := by omega
    have hF : WrOk ws ↔ ws.length ≤ 16 := ⟨fun h => h.2, fun h => ⟨hn, h⟩⟩
    refine Run trivial trivial trivial trivial trivial trivial trivial trivial trivial trivial trivial hF Split.ok
end Go.Proofs.Ytnjkklkjlloedaa
