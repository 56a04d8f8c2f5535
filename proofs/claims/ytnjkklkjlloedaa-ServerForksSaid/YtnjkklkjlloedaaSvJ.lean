/- Law 19: ServerApart. -/
import Derived.Test.YtnjkklkjlloedaaSvI
import Derived.Test.YtnjkklkjlloedaaLkS
namespace Go.Proofs.Ytnjkklkjlloedaa
open Go.RowKit
set_option linter.unusedVariables false
set_option linter.unusedSimpArgs false
set_option maxRecDepth 10000
/-- Strings that the laws push. -/
def S100 (ls : List (List UInt8)) : Prop := ∀ b ∈ ls, 1 ≤ b.length ∧ b.length ≤ 100
theorem S100.ok {ls : List (List UInt8)} (h : S100 ls) : LksOk ls := fun b hb => by have := h b hb; omega
theorem S100.len {ls : List (List UInt8)} (h : S100 ls) (h8 : ls.length ≤ 8) (c : Int) : (frB (pf c ls)).length ≤ 32768 := by
  rw [pf_len]
  have h1 := lkN_le (m := 100) (ls := ls) (fun b hb => (h b hb).2)
  have h2 : ls.length * (100 + 2) ≤ 8 * (100 + 2) := Nat.mul_le_mul_right _ h8
  omega
theorem pushE_few {L : Lg} {k : Int × Int} {ls : List (List UInt8)} (h : (getL L k).length + ls.length ≤ 64) : pushE L k ls = 0 := by
  have := addAll_le ls (getL L k)
  rw [pushE, if_neg (by omega)]
theorem pushL_few {L : Lg} {k : Int × Int} {ls : List (List UInt8)} (h : (getL L k).length + ls.length ≤ 64) (q : Int × Int) : getL (pushL L k ls) q = if q = k then addAll (getL L k) ls else getL L q := by
  have := addAll_le ls (getL L k)
  rw [getL_push, if_neg (show ¬ 64 < (addAll (getL L k) ls).length by omega)]
set_option maxHeartbeats 8000000 in
theorem ServerApart_law (a b : List (List UInt8)) (br : Int) (hqa : a.length ≤ 9223372036854775807) (hqb : b.length ≤ 9223372036854775807) : ACalls Try.prog 5 [stA a, stA b, .int .i64 br] ⟨[], [], 0⟩ (fun rv _ => rv = .bool true) := by
  refine ACalls_body Try.func5 rfl rfl ?_
  simp only [Try.ntmps5, List.length_cons, List.length_nil, Nat.reduceAdd, Nat.reduceSub, List.replicate_succ, List.replicate_zero, List.cons_append, List.nil_append]
  have h0 := anchor19_val
  by_cases g1 : a.length < 1
  · refine Run ?_ trivial trivial trivial trivial trivial trivial trivial trivial trivial trivial trivial trivial
    rfl
  by_cases g2 : 8 < a.length
  · refine Run ?_ trivial trivial trivial trivial trivial trivial trivial trivial trivial trivial trivial trivial
    rfl
  by_cases g3 : b.length < 1
  · refine Run ?_ trivial trivial trivial trivial trivial trivial trivial trivial trivial trivial trivial trivial
    rfl
  by_cases g4 : 8 < b.length
  · refine Run ?_ trivial trivial trivial trivial trivial trivial trivial trivial trivial trivial trivial trivial
    rfl
  by_cases g5 : br < 0
  · refine Run ?_ trivial trivial trivial trivial trivial trivial trivial trivial trivial trivial trivial trivial
    rfl
  by_cases g6 : 1 < br
  · refine Run ?_ trivial trivial trivial trivial trivial trivial trivial trivial trivial trivial trivial trivial
    rfl
  refine Run ?_ trivial trivial trivial trivial trivial trivial trivial trivial trivial trivial trivial trivial
  refine AWP_loopS [6, 8, 51, 52, 53, 54, 55, 56, 57, 58, 59, 60, 61, 62, 63] (N := Nat × List AV) (fun ⟨k, js⟩ => [js.getD 0 .und, js.getD 1 .und, .int .i64 (k : Int), js.getD 2 .und, js.getD 3 .und, js.getD 4 .und, js.getD 5 .und, js.getD 6 .und, js.getD 7 .und, js.getD 8 .und, js.getD 9 .und, js.getD 10 .und, js.getD 11 .und, js.getD 12 .und, js.getD 13 .und]) (fun ⟨k, js⟩ => ⟨[], [(0, .top (0 + a.length + b.length))], 1⟩) (fun ⟨k, js⟩ => k ≤ a.length + b.length ∧ S100 ((a ++ b).take k)) (fun ⟨k, js⟩ => a.length + b.length - k) ⟨0, [_, _, _, _, _, _, _, _, _, _, _, _, _, _]⟩ rfl rfl ?hi0 ?_
  rotate_left
  rintro ⟨k, js⟩ sl_ hs hi
  simp only [setsF, setF, Option.some.injEq] at hs
  subst hs
  case hi0 => exact ⟨by omega, fun b hb => by simp at hb⟩
  obtain ⟨hk, hs⟩ := hi
  by_cases hlt : k < a.length + b.length
  · obtain ⟨x, hx⟩ : ∃ x, (a ++ b)[k]? = some x := ⟨_, List.getElem?_eq_getElem (by rw [List.length_append]; exact hlt)⟩
    have hc : ([] ++ a.map AV.str ++ b.map AV.str)[k]? = some (.str x) := by rw [List.nil_append, ← List.map_append, List.getElem?_map, hx]; rfl
    by_cases g7 : x.length < 1
    · refine Run ?_ trivial trivial trivial trivial trivial trivial trivial trivial trivial trivial trivial trivial
      rfl
    by_cases g8 : 100 < x.length
    · refine Run ?_ trivial trivial trivial trivial trivial trivial trivial trivial trivial trivial trivial trivial
      rfl
    refine Run ?_ trivial trivial trivial trivial trivial trivial trivial trivial trivial trivial trivial trivial
    refine ALoopQ_normal ⟨k + 1, [_, _, _, _, _, _, _, _, _, _, _, _, _, _]⟩ rfl rfl ?hi1 ?hm1
    case hi1 => exact ⟨by omega, take_succ_all hx hs (by omega)⟩
    case hm1 => simp only; omega
  obtain rfl : k = a.length + b.length := by omega
  rw [List.take_of_length_le (by rw [List.length_append]; omega)] at hs
  have ha : S100 a := fun y hy => hs y (List.mem_append.2 (.inl hy))
  have hb : S100 b := fun y hy => hs y (List.mem_append.2 (.inr hy))
  clear hs hk hlt
  have b0 : 0 ≤ br ∧ br < 2 := by omega
  have b1 : 0 ≤ 1 - br ∧ 1 - br < 2 := by omega
  have ibr : I64 br := ⟨by omega, by omega⟩
  have ibr1 : I64 (1 - br) := ⟨by omega, by omega⟩
  have i1 : I64 1 := ⟨by omega, by omega⟩
  have i2 : I64 2 := ⟨by omega, by omega⟩
  have p1 := push19_val 1 a (by omega) ha.ok (by omega) (by omega) (ha.len (by omega) 1)
  have q1 := push_fact [] LgOk.nil br b0.1 b0.2 1 a (by omega) ha.ok (by omega) (by omega) (ha.len (by omega) 1) 2 1
  rw [pushE_few (by simp only [getL, List.length_nil]; omega)] at q1
  have ok1 : LgOk (pushL [] (br, 1) a) := LgOk.push LgOk.nil _ _ ha.ok (by omega)
  have f1 : ∀ q, getL (pushL [] (br, 1) a) q = if q = (br, 1) then addAll [] a else [] := fun q => pushL_few (by simp only [getL, List.length_nil]; omega) q
  have w1 := addAll_le a []
  rw [List.length_nil, Nat.zero_add] at w1
  generalize pushL [] (br, 1) a = L1 at q1 ok1 f1
  have r1 := log_sys L1 ok1 br 1 ibr i1 2 1
  rw [f1, if_pos rfl] at r1
  refine Run ?_ trivial trivial (⟨Try.func16, rfl, rfl⟩ : Inl Try.prog 16 _ _ _) trivial trivial trivial trivial trivial trivial trivial trivial trivial
  clear q1 r1 p1
  have p2 := push19_val 2 b (by omega) hb.ok (by omega) (by omega) (hb.len (by omega) 2)
  have p3 := push19_val 1 b (by omega) hb.ok (by omega) (by omega) (hb.len (by omega) 1)
  have q2 := push_fact L1 ok1 br b0.1 b0.2 2 b (by omega) hb.ok (by omega) (by omega) (hb.len (by omega) 2) 2 1
  have z1 : getL L1 (br, 2) = [] := by rw [f1, if_neg (by simp)]
  rw [pushE_few (by rw [z1, List.length_nil]; omega)] at q2
  have ok2 : LgOk (pushL L1 (br, 2) b) := LgOk.push ok1 _ _ hb.ok (by omega)
  have f2 : ∀ q, getL (pushL L1 (br, 2) b) q = if q = (br, 2) then addAll [] b else getL L1 q := fun q => by rw [pushL_few (by rw [z1, List.length_nil]; omega), z1]
  generalize pushL L1 (br, 2) b = L2 at q2 ok2 f2
  have q3 := push_fact L2 ok2 (1 - br) b1.1 b1.2 1 b (by omega) hb.ok (by omega) (by omega) (hb.len (by omega) 1) 2 1
  have n1 : (1 - br, (1 : Int)) ≠ (br, 1) := by simp; omega
  have z2 : getL L2 (1 - br, 1) = [] := by rw [f2, if_neg (by simp), f1, if_neg n1]
  rw [pushE_few (by rw [z2, List.length_nil]; omega)] at q3
  have ok3 : LgOk (pushL L2 (1 - br, 1) b) := LgOk.push ok2 _ _ hb.ok (by omega)
  have f3 : ∀ q, getL (pushL L2 (1 - br, 1) b) q = if q = (1 - br, 1) then addAll [] b else getL L2 q := fun q => by rw [pushL_few (by rw [z2, List.length_nil]; omega), z2]
  generalize pushL L2 (1 - br, 1) b = L3 at q3 ok3 f3
  have r1 := log_sys L3 ok3 br 1 ibr i1 2 1
  rw [f3, if_neg n1.symm, f2, if_neg (by simp), f1, if_pos rfl] at r1
  have r2 := log_sys L3 ok3 br 2 ibr i2 2 1
  rw [f3, if_neg (by simp), f2, if_pos rfl] at r2
  have r3 := log_sys L3 ok3 (1 - br) 1 ibr1 i1 2 1
  rw [f3, if_pos rfl] at r3
  have r4 := log_sys L3 ok3 (1 - br) 2 ibr1 i2 2 1
  rw [f3, if_neg (by simp), f2, if_neg (by simp; omega), f1, if_neg (by simp)] at r4
  simp only [lkA, List.map_nil, List.length_nil] at r4
  have w2 := addAll_le b []
  rw [List.length_nil, Nat.zero_add] at w2
  have s1 := same19_val (addAll [] a) (addAll [] a) (by omega)
  have s2 := same19_val (addAll [] b) (addAll [] b) (by omega)
  rw [show (addAll [] a == addAll [] a) = true by simp] at s1
  rw [show (addAll [] b == addAll [] b) = true by simp] at s2
  clear f1 f2 f3 ok1 ok2 ok3 z1 z2 n1
  generalize addAll [] a = wa at r1 w1 s1 ⊢
  generalize addAll [] b = wb at r2 r3 w2 s2 ⊢
  generalize frB (pf 2 b) = B2 at p2 q2
  generalize frB (pf 1 b) = B3 at p3 q3
  refine Run ?_ trivial trivial trivial trivial trivial trivial trivial trivial trivial trivial trivial trivial
  rfl
theorem open_strs : Opens Try.prog 45 (RSlice 1 RStr) := opens_slice Try.underlying45 (by kernel_rfl) (by omega) (opens_string Try.underlying9)
theorem ServerApart_walk (w : World) (A : Option Addr) (n c : Nat) (a : List (List UInt8)) (ha : RSlice 1 RStr w [.slice A n c] a) (A2 : Option Addr) (n2 c2 : Nat) (b : List (List UInt8)) (hb : RSlice 1 RStr w [.slice A2 n2 c2] b) (x : Int) (hx : (Lit.int .i64 x).wf = true) : Calls Try.prog 5 #[.slice A n c, .slice A2 n2 c2, .int .i64 x] w (Tells w true) := by
  obtain ⟨h1, h2, _⟩ := RSlice.repsA1 AV.str RStr.repsA ha
  obtain ⟨h3, h4, _⟩ := RSlice.repsA1 AV.str RStr.repsA hb
  exact (ServerApart_law a b x h2 h4).tells (.cons h1 (.cons h3 (.one Reps_int)))
end Go.Proofs.Ytnjkklkjlloedaa
