/- entry: within, wraps, bare, Same, Right, by the abstract machine. -/
import Derived.Test.YtnjkklkjlloedaaPutA
import Derived.Test.YtnjkklkjlloedaaRdP
namespace Go.Proofs.Ytnjkklkjlloedaa
open Go.RowKit
set_option linter.unusedVariables false
set_option linter.unusedSimpArgs false
set_option maxRecDepth 10000
/-- A wrap. -/
structure Wp where
  who : Int
  box : List UInt8
deriving DecidableEq
def wpC (w : Wp) : List AV := [.int .i64 w.who, bsA w.box]
def wpCs (ws : List Wp) : List AV := ws.flatMap wpC
abbrev wrA (ws : List Wp) : AV := .sl .none (wpCs ws) ws.length
theorem wpCs_shut : ∀ ws : List Wp, AV.shutL (wpCs ws) = true
  | [] => rfl
  | w :: ws => by simp only [wpCs, List.flatMap_cons, wpC, List.cons_append, List.nil_append, AV.shutL, AV.shut, shutL_bvA, Bool.true_and]; exact wpCs_shut ws
theorem wrA_shut (ws : List Wp) : (wrA ws).shut = true := by unfold wrA AV.shut; exact wpCs_shut ws
theorem wpCs_wk : ∀ ws : List Wp, AV.wkL (wpCs ws) = wpCs ws
  | [] => rfl
  | w :: ws => by
    have := wpCs_wk ws
    simp only [wpCs] at this
    simp only [wpCs, List.flatMap_cons, wpC, List.cons_append, List.nil_append, AV.wkL, bsA_wk, AV.wk, this]
    rw [AV.wkL_bvA]
theorem wpCs_len : ∀ ws : List Wp, (wpCs ws).length = ws.length * 2
  | [] => rfl
  | w :: ws => by have := wpCs_len ws; simp only [wpCs] at this; simp only [wpCs, List.flatMap_cons, List.length_append, wpC, List.length_cons, List.length_nil, this]; omega
theorem wpCs_drop : ∀ (ws : List Wp) (k : Nat), (wpCs ws).drop (k * 2) = wpCs (ws.drop k)
  | ws, 0 => by simp
  | [], k + 1 => by simp [wpCs]
  | w :: ws, k + 1 => by
    rw [show (k + 1) * 2 = k * 2 + 1 + 1 by omega, List.drop_succ_cons]
    exact wpCs_drop ws k
theorem wpCs_load {ws : List Wp} {k : Nat} {w : Wp} (h : ws[k]? = some w) : aload true 2 (wpCs ws) (k * 2) = some (.agg [.int .i64 w.who, bsA w.box]) := by
  obtain ⟨hk, rfl⟩ := List.getElem?_eq_some_iff.1 h
  simp only [aload, if_true]
  rw [if_pos (by rw [wpCs_len]; omega), wpCs_drop, List.drop_eq_getElem_cons hk]
  rfl
theorem wpCs_who {ws : List Wp} {k : Nat} {w : Wp} (h : ws[k]? = some w) : (wpCs ws)[k * 2]? = some (.int .i64 w.who) := by
  obtain ⟨hk, rfl⟩ := List.getElem?_eq_some_iff.1 h
  have : (wpCs ws)[k * 2]? = ((wpCs ws).drop (k * 2))[0]? := by simp
  rw [this, wpCs_drop, List.drop_eq_getElem_cons hk]
  rfl
/-- An entry. -/
structure En where
  kind : Int
  writer : Int
  seq : Int
  name : List UInt8
  value : List UInt8
  who : Int
  rights : Int
  epoch : Int
  wraps : List Wp
deriving DecidableEq
abbrev enC (e : En) : List AV := [.int .i64 e.kind, .int .i64 e.writer, .int .i64 e.seq, bsA e.name, bsA e.value, .int .i64 e.who, .int .i64 e.rights, .int .i64 e.epoch, wrA e.wraps]
abbrev enA (e : En) : AV := .agg (enC e)
theorem enC_shut (e : En) : AV.shutL (enC e) = true := by simp only [enC, AV.shutL, wrA_shut, bsA_shut, AV.shut, Bool.and_self]; simp [wpCs_shut, shutL_bvA]
theorem enA_shut (e : En) : (enA e).shut = true := by unfold enA AV.shut; exact enC_shut e
theorem within_val (n lo hi : Int) : AVal Try.prog 61 [.int .i64 n, .int .i64 lo, .int .i64 hi] (.bool (decide (lo ≤ n ∧ n ≤ hi))) := by
  refine AVal.mkw (by simp [AV.shutL, AV.shut]) (by simp [AV.shut]) ?_
  refine ACalls_body Try.func61 rfl rfl ?_
  simp only [Try.ntmps61, List.length_cons, List.length_nil, Nat.reduceAdd, Nat.reduceSub, List.replicate_succ, List.replicate_zero, List.cons_append, List.nil_append]
  refine Run trivial trivial trivial trivial trivial trivial trivial trivial trivial trivial trivial trivial Split.ok
def prevWho (ws : List Wp) (k : Nat) : Int := if k = 0 then 0 else (ws.getD (k - 1) ⟨0, []⟩).who
def wrAt (ws : List Wp) (k : Nat) (w : Wp) : Prop := 1 ≤ w.who ∧ w.who ≤ 16 ∧ w.box.length = 48 ∧ prevWho ws k < w.who
def WrOk (ws : List Wp) : Prop := (∀ k, k < ws.length → wrAt ws k (ws.getD k ⟨0, []⟩)) ∧ ws.length ≤ 16
instance (ws : List Wp) (k : Nat) (w : Wp) : Decidable (wrAt ws k w) := by unfold wrAt; infer_instance
instance (ws : List Wp) : Decidable (WrOk ws) := by unfold WrOk; infer_instance
theorem getD_of {α : Type} {l : List α} {k : Nat} {x d : α} (h : l[k]? = some x) : l.getD k d = x := by rw [List.getD_eq_getElem?_getD, h]; rfl
set_option maxHeartbeats 4000000 in
theorem wraps_val (ws : List Wp) (hm : ws.length ≤ 9223372036854775807) : AVal Try.prog 64 [wrA ws] (.bool (decide (WrOk ws))) := by
  refine AVal.mkw (by simp only [AV.shutL, wrA_shut, Bool.and_self]) (by simp [AV.shut]) ?_
  refine ACalls_body Try.func64 rfl rfl ?_
  simp only [Try.ntmps64, List.length_cons, List.length_nil, Nat.reduceAdd, Nat.reduceSub, List.replicate_succ, List.replicate_zero, List.cons_append, List.nil_append]
  refine Run ?_ trivial trivial trivial trivial trivial trivial trivial trivial trivial trivial trivial trivial
  refine AWP_loopW [2, 3, 4, 5, 6, 7, 8, 9, 10, 11, 12, 13, 14, 15, 16, 17, 18, 19, 20, 21, 22, 23, 24, 25, 26, 27, 28, 29, 30, 31, 32, 33, 34, 35, 36, 37] (N := Nat × Int × List AV) (fun ⟨k, nx, js⟩ => [js.getD 0 .und, js.getD 1 .und, js.getD 2 .und, wrA ws, .int .i64 (ws.length : Int), .int .i64 (k : Int), js.getD 3 .und, js.getD 4 .und, js.getD 5 .und, js.getD 6 .und, js.getD 7 .und, js.getD 8 .und, js.getD 9 .und, js.getD 10 .und, js.getD 11 .und, js.getD 12 .und, js.getD 13 .und, js.getD 14 .und, js.getD 15 .und, js.getD 16 .und, js.getD 17 .und, js.getD 18 .und, js.getD 19 .und, js.getD 20 .und, js.getD 21 .und, js.getD 22 .und, js.getD 23 .und, js.getD 24 .und, js.getD 25 .und, js.getD 26 .und, js.getD 27 .und, js.getD 28 .und, js.getD 29 .und, js.getD 30 .und, js.getD 31 .und, js.getD 32 .und]) (fun ⟨k, nx, js⟩ => ⟨[], [], nx⟩) (fun ⟨k, nx, js⟩ => k ≤ ws.length ∧ ∀ j, j < k → wrAt ws j (ws.getD j ⟨0, []⟩)) (fun ⟨k, nx, js⟩ => ws.length - k) ⟨0, 0, [_, _, _, _, _, _, _, _, _, _, _, _, _, _, _, _, _, _, _, _, _, _, _, _, _, _, _, _, _, _, _, _, _]⟩ rfl ?hs0 ?hi0 ?_
  rotate_left 2
  rintro ⟨k, nx, js⟩ sl_ hs hi
  simp only [setsF, setF, Option.some.injEq] at hs
  subst hs
  case hs0 => exact ASub.refl _
  case hi0 => exact ⟨by omega, fun j hj => by omega⟩
  obtain ⟨hk, hn⟩ := hi
  by_cases hlt : k < ws.length
  · have hel : ws[k]? = some ws[k] := List.getElem?_eq_getElem hlt
    have hcl := wpCs_load hel
    have hgd : ws.getD k ⟨0, []⟩ = ws[k] := getD_of hel
    generalize hx : ws[k] = x at *
    have hW := within_val x.who 1 16
    have hno : ∀ (b : Prop), ¬ wrAt ws k x → ¬ WrOk ws := fun _ h h2 => h (by rw [← hgd]; exact h2.1 k hlt)
    have hcp : 0 < k → (wpCs ws)[((k : Int) - 1).toNat * 2 + 0]? = some (.int .i64 (prevWho ws k)) := by
      intro h0
      have hlt' : k - 1 < ws.length := by omega
      have hel' : ws[k - 1]? = some ws[k - 1] := List.getElem?_eq_getElem hlt'
      rw [show ((k : Int) - 1).toNat * 2 + 0 = (k - 1) * 2 by omega, wpCs_who hel']
      unfold prevWho
      rw [if_neg (by omega), getD_of hel']
    by_cases h1 : 1 ≤ x.who ∧ x.who ≤ 16
    · rw [decide_eq_true h1] at hW
      by_cases h2 : x.box.length = 48
      · by_cases h0 : k = 0
        · have hok : wrAt ws k x := ⟨h1.1, h1.2, h2, by unfold prevWho; rw [if_pos h0]; omega⟩
          refine Run ?_ trivial trivial trivial trivial trivial trivial trivial trivial trivial trivial trivial trivial
          refine ALoopW_normal ⟨k + 1, nx + 1, [_, _, _, _, _, _, _, _, _, _, _, _, _, _, _, _, _, _, _, _, _, _, _, _, _, _, _, _, _, _, _, _, _]⟩ rfl ?hs1 ?hi1 ?hm1
          case hs1 => exact (ASub.refl _).drop rfl
          case hi1 => exact ⟨by omega, fun j hj => by
            by_cases hjk : j = k
            · rw [hjk, hgd]; exact hok
            · exact hn j (by omega)⟩
          case hm1 => simp only; omega
        · have hcp' := hcp (by omega)
          by_cases h3 : prevWho ws k < x.who
          · have hok : wrAt ws k x := ⟨h1.1, h1.2, h2, h3⟩
            refine Run ?_ trivial trivial trivial trivial trivial trivial trivial trivial trivial trivial trivial trivial
            refine ALoopW_normal ⟨k + 1, nx + 1, [_, _, _, _, _, _, _, _, _, _, _, _, _, _, _, _, _, _, _, _, _, _, _, _, _, _, _, _, _, _, _, _, _]⟩ rfl ?hs1 ?hi1 ?hm1
            case hs1 => exact (ASub.refl _).drop rfl
            case hi1 => exact ⟨by omega, fun j hj => by
              by_cases hjk : j = k
              · rw [hjk, hgd]; exact hok
              · exact hn j (by omega)⟩
            case hm1 => simp only; omega
          · rw [decide_eq_false (hno True fun h => h3 h.2.2.2)]
            refine Run ?_ trivial trivial trivial trivial trivial trivial trivial trivial trivial trivial trivial trivial
            rfl
      · rw [decide_eq_false (hno True fun h => h2 h.2.2.1)]
        refine Run ?_ trivial trivial trivial trivial trivial trivial trivial trivial trivial trivial trivial trivial
        rfl
    · rw [decide_eq_false h1] at hW
      rw [decide_eq_false (hno True fun h => h1 ⟨h.1, h.2.1⟩)]
      refine Run ?_ trivial trivial trivial trivial trivial trivial trivial trivial trivial trivial trivial trivial
      rfl
  · obtain rfl : k = ws.length := by omega
    have hF : WrOk ws ↔ ws.length ≤ 16 := ⟨fun h => h.2, fun h => ⟨hn, h⟩⟩
    refine Run trivial trivial trivial trivial trivial trivial trivial trivial trivial trivial trivial hF Split.ok
end Go.Proofs.Ytnjkklkjlloedaa
