/- Law 19: ServerForks. -/
import Derived.Test.YtnjkklkjlloedaaSvL
import Derived.Test.YtnjkklkjlloedaaSvJ
namespace Go.Proofs.Ytnjkklkjlloedaa
open Go.RowKit
set_option linter.unusedVariables false
set_option linter.unusedSimpArgs false
set_option maxRecDepth 10000
/-- Keys are numbers, logs are short. -/
def LgK (L : Lg) : Prop := ∀ e ∈ L, (I64 e.1.1 ∧ I64 e.1.2) ∧ e.2.length ≤ 64
theorem LgK.nil : LgK [] := fun e he => by cases he
theorem LgK.push {L : Lg} (h : LgK L) (hL : LgOk L) {k : Int × Int} (hk : I64 k.1 ∧ I64 k.2) (ls : List (List UInt8)) : LgK (pushL L k ls) := by
  unfold pushL
  split
  · exact h
  · intro e he
    rcases setL_mem he with rfl | he
    · exact ⟨hk, by show (addAll (getL L k) ls).length ≤ 64; omega⟩
    · exact h e he
theorem getL_filter (p : Int × Int → Bool) : ∀ (L : Lg) (q : Int × Int), getL (L.filter fun e => p e.1) q = if p q then getL L q else []
  | [], q => by simp [getL]
  | e :: r, q => by
    have ih := getL_filter p r q
    by_cases hq : e.1 = q
    · subst hq
      cases hp : p e.1
      · rw [List.filter_cons, hp, if_neg (by simp), ih, hp]; rfl
      · rw [List.filter_cons, hp, if_pos rfl, getL, if_pos rfl, if_pos rfl, getL, if_pos rfl]
    · rw [List.filter_cons]
      split
      · rw [getL, if_neg hq, ih, getL, if_neg hq]
      · rw [ih, getL, if_neg hq]
theorem getL_app : ∀ (A B : Lg) (q : Int × Int), (∀ e ∈ A, e.1 ≠ q) → getL (A ++ B) q = getL B q
  | [], B, q, _ => rfl
  | e :: r, B, q, h => by rw [List.cons_append, getL, if_neg (h e (List.mem_cons_self ..)), getL_app r B q fun x hx => h x (List.mem_cons_of_mem _ hx)]
theorem getL_app2 : ∀ (A B : Lg) (q : Int × Int), (∀ e ∈ B, e.1 ≠ q) → getL (A ++ B) q = getL A q
  | [], [], q, _ => rfl
  | [], e :: r, q, h => by
    have := getL_app2 [] r q fun x hx => h x (List.mem_cons_of_mem _ hx)
    show (if e.1 = q then e.2 else getL r q) = []
    rw [if_neg (h e (List.mem_cons_self ..))]
    exact this
  | a :: r, B, q, h => by
    rw [List.cons_append, getL, getL, getL_app2 r B q h]
theorem getL_forkG (n : Nat) (c : Int) : ∀ L : Lg, getL ((L.filter fun e => e.1.1 == 0).map (forkG n)) (1, c) = (getL L (0, c)).take n
  | [] => by simp [getL]
  | e :: r => by
    have ih := getL_forkG n c r
    rw [List.filter_cons]
    by_cases h0 : e.1.1 = 0
    · rw [if_pos (by simp [h0]), List.map_cons, getL, getL]
      by_cases hc : e.1.2 = c
      · rw [if_pos (by simp [forkG, hc]), if_pos (Prod.ext h0 hc)]; rfl
      · rw [if_neg (by simp [forkG, hc]), if_neg (fun h => hc (by rw [h])), ih]
    · rw [if_neg (by simp [h0]), getL, if_neg (fun h => h0 (by rw [h])), ih]
theorem getL_fork (L : Lg) (n : Nat) (q : Int × Int) : getL (forkL L n) q = if q.1 = 1 then (getL L (0, q.2)).take n else getL L q := by
  unfold forkL
  by_cases h : q.1 = 1
  · rw [if_pos h, getL_app _ _ _ fun e he hq => (forkA_mem he).2 (by rw [hq]; exact h)]
    obtain ⟨q1, q2⟩ := q
    simp only at h
    subst h
    exact getL_forkG n q2 L
  · rw [if_neg h, getL_app2 _ _ _ fun e he hq => by
      obtain ⟨x, _, rfl⟩ := List.mem_map.1 he
      exact h (by rw [← hq]; rfl)]
    rw [forkA, getL_filter (fun k => k.1 != 1), if_pos (by simpa using h)]
theorem LksOk.take {ls : List (List UInt8)} (h : LksOk ls) (n : Nat) : LksOk (ls.take n) := fun b hb => h b (List.mem_of_mem_take hb)
theorem LgOk.fork {L : Lg} (h : LgOk L) (n : Nat) : LgOk (forkL L n) := by
  refine ⟨fun q => ?_, fun q => ?_⟩
  · rw [getL_fork]
    split
    · exact (h.links _).take n
    · exact h.links q
  · rw [getL_fork]
    split
    · rw [List.length_take]
      have := h.most (0, q.2)
      omega
    · exact h.most q
theorem LgK.fork {L : Lg} (h : LgK L) (n : Nat) : LgK (forkL L n) := by
  intro e he
  rcases List.mem_append.1 he with h1 | h1
  · exact h e (forkA_mem h1).1
  · obtain ⟨x, hx, rfl⟩ := List.mem_map.1 h1
    have := h x (List.mem_filter.1 hx).1
    exact ⟨⟨⟨by show (-9223372036854775808 : Int) ≤ 1; omega, by show (1 : Int) ≤ _; omega⟩, this.1.2⟩, by show (x.2.take n).length ≤ 64; rw [List.length_take]; omega⟩
set_option maxHeartbeats 8000000 in
theorem ServerForks_law (a b : List (List UInt8)) (z : Int) (hqa : a.length ≤ 9223372036854775807) (hqb : b.length ≤ 9223372036854775807) : ACalls Try.prog 7 [stA a, .int .i64 z, stA b] ⟨[], [], 0⟩ (fun rv _ => rv = .bool true) := by
  refine ACalls_body Try.func7 rfl rfl ?_
  simp only [Try.ntmps7, List.length_cons, List.length_nil, Nat.reduceAdd, Nat.reduceSub, List.replicate_succ, List.replicate_zero, List.cons_append, List.nil_append]
  have h0 := anchor19_val
  by_cases g1 : a.length < 1
  · refine Run ?_ trivial trivial trivial trivial trivial trivial trivial trivial trivial trivial trivial trivial
    rfl
  by_cases g2 : 8 < a.length
  · refine Run ?_ trivial trivial trivial trivial trivial trivial trivial trivial trivial trivial trivial trivial
    rfl
  by_cases g3 : b.length < 1
  · refine Run ?_ trivial trivial trivial trivial trivial trivial trivial trivial trivial trivial trivial trivial
    rfl
  by_cases g4 : 8 < b.length
  · refine Run ?_ trivial trivial trivial trivial trivial trivial trivial trivial trivial trivial trivial trivial
    rfl
  refine Run ?_ trivial trivial trivial trivial trivial trivial trivial trivial trivial trivial trivial trivial
  refine AWP_loopS [6, 8, 39, 40, 41, 42, 43, 44, 45, 46, 47, 48, 49, 50, 51] (N := Nat × List AV) (fun ⟨k, js⟩ => [js.getD 0 .und, js.getD 1 .und, .int .i64 (k : Int), js.getD 2 .und, js.getD 3 .und, js.getD 4 .und, js.getD 5 .und, js.getD 6 .und, js.getD 7 .und, js.getD 8 .und, js.getD 9 .und, js.getD 10 .und, js.getD 11 .und, js.getD 12 .und, js.getD 13 .und]) (fun ⟨k, js⟩ => ⟨[], [(0, .top (0 + a.length + b.length))], 1⟩) (fun ⟨k, js⟩ => k ≤ a.length + b.length ∧ S100 ((a ++ b).take k)) (fun ⟨k, js⟩ => a.length + b.length - k) ⟨0, [_, _, _, _, _, _, _, _, _, _, _, _, _, _]⟩ rfl rfl ?hi0 ?_
  rotate_left
  rintro ⟨k, js⟩ sl_ hs hi
  simp only [setsF, setF, Option.some.injEq] at hs
  subst hs
  case hi0 => exact ⟨by omega, fun b hb => by simp at hb⟩
  obtain ⟨hk, hs⟩ := hi
  by_cases hlt : k < a.length + b.length
  · obtain ⟨x, hx⟩ : ∃ x, (a ++ b)[k]? = some x := ⟨_, List.getElem?_eq_getElem (by rw [List.length_append]; exact hlt)⟩
    have hc : ([] ++ a.map AV.str ++ b.map AV.str)[k]? = some (.str x) := by rw [List.nil_append, ← List.map_append, List.getElem?_map, hx]; rfl
    by_cases g7 : x.length < 1
    · refine Run ?_ trivial trivial trivial trivial trivial trivial trivial trivial trivial trivial trivial trivial
      rfl
    by_cases g8 : 100 < x.length
    · refine Run ?_ trivial trivial trivial trivial trivial trivial trivial trivial trivial trivial trivial trivial
      rfl
    refine Run ?_ trivial trivial trivial trivial trivial trivial trivial trivial trivial trivial trivial trivial
    refine ALoopQ_normal ⟨k + 1, [_, _, _, _, _, _, _, _, _, _, _, _, _, _]⟩ rfl rfl ?hi1 ?hm1
    case hi1 => exact ⟨by omega, take_succ_all hx hs (by omega)⟩
    case hm1 => simp only; omega
  obtain rfl : k = a.length + b.length := by omega
  rw [List.take_of_length_le (by rw [List.length_append]; omega)] at hs
  have ha : S100 a := fun y hy => hs y (List.mem_append.2 (.inl hy))
  have hb : S100 b := fun y hy => hs y (List.mem_append.2 (.inr hy))
  clear hs hk hlt
  have i0 : I64 0 := ⟨by omega, by omega⟩
  have i1 : I64 1 := ⟨by omega, by omega⟩
  have i3 : I64 3 := ⟨by omega, by omega⟩
  have p1 := push19_val 1 a (by omega) ha.ok (by omega) (by omega) (ha.len (by omega) 1)
  have p2 := push19_val 3 b (by omega) hb.ok (by omega) (by omega) (hb.len (by omega) 3)
  have q1 := push_fact [] LgOk.nil 0 (by omega) (by omega) 1 a (by omega) ha.ok (by omega) (by omega) (ha.len (by omega) 1) 2 1
  rw [pushE_few (by simp only [getL, List.length_nil]; omega)] at q1
  have ok1 : LgOk (pushL [] (0, 1) a) := LgOk.push LgOk.nil _ _ ha.ok (by omega)
  have k1 : LgK (pushL [] (0, 1) a) := LgK.push LgK.nil LgOk.nil ⟨i0, i1⟩ a
  have f1 : ∀ q, getL (pushL [] (0, 1) a) q = if q = (0, 1) then addAll [] a else [] := fun q => pushL_few (by simp only [getL, List.length_nil]; omega) q
  have w1 := addAll_le a []
  rw [List.length_nil, Nat.zero_add] at w1
  generalize pushL [] (0, 1) a = L1 at q1 ok1 k1 f1
  have q2 := push_fact L1 ok1 1 (by omega) (by omega) 3 b (by omega) hb.ok (by omega) (by omega) (hb.len (by omega) 3) 2 1
  have z1 : getL L1 (1, 3) = [] := by rw [f1, if_neg (by simp)]
  rw [pushE_few (by rw [z1, List.length_nil]; omega)] at q2
  have ok2 : LgOk (pushL L1 (1, 3) b) := LgOk.push ok1 _ _ hb.ok (by omega)
  have k2 : LgK (pushL L1 (1, 3) b) := LgK.push k1 ok1 ⟨i1, i3⟩ b
  have f2 : ∀ q, getL (pushL L1 (1, 3) b) q = if q = (1, 3) then addAll [] b else getL L1 q := fun q => by rw [pushL_few (by rw [z1, List.length_nil]; omega), z1]
  generalize pushL L1 (1, 3) b = L2 at q2 ok2 k2 f2
  have r1 := log_sys L2 ok2 0 1 i0 i1 2 1
  rw [f2, if_neg (by simp), f1, if_pos rfl] at r1
  have wb := addAll_pos (lg := []) (show 0 < b.length by omega)
  have w2 := addAll_le b []
  rw [List.length_nil, Nat.zero_add] at w2
  have s1 := same19_val (addAll [] a) (addAll [] a) (by omega)
  rw [show (addAll [] a == addAll [] a) = true by simp] at s1
  by_cases hz : z < 0
  · have r2 := log_sys L2 ok2 1 3 i1 i3 2 1
    rw [f2, if_pos rfl] at r2
    have e1 := fork_neg L2 z hz 2 1
    clear f1 f2 ok1 ok2 z1
    generalize addAll [] a = wa at r1 w1 s1
    generalize addAll [] b = wb at r2 w2 wb
    generalize frB (pf 1 a) = B1 at p1 q1
    generalize frB (pf 3 b) = B2 at p2 q2
    refine Run ?_ trivial trivial (⟨Try.func16, rfl, rfl⟩ : Inl Try.prog 16 _ _ _) trivial trivial trivial trivial trivial trivial trivial trivial trivial
    rfl
  obtain ⟨n, rfl⟩ := Int.eq_ofNat_of_zero_le (Int.not_lt.1 hz)
  have e1 := fork_sys L2 ok2 n (fun e he => (k2 e he).1) (fun e he => (k2 e he).2) 2 1
  have ok3 := ok2.fork n
  have f3 := getL_fork L2 n
  generalize forkL L2 n = L3 at e1 ok3 f3
  have r2 := log_sys L3 ok3 1 1 i1 i1 2 1
  rw [f3, if_pos rfl, f2, if_neg (by simp), f1, if_pos rfl] at r2
  have r3 := log_sys L3 ok3 1 3 i1 i3 2 1
  rw [f3, if_pos rfl, f2, if_neg (by simp), f1, if_neg (by simp), List.take_nil] at r3
  simp only [lkA, List.map_nil, List.length_nil] at r3
  have p3 := push19_val 1 b (by omega) hb.ok (by omega) (by omega) (hb.len (by omega) 1)
  have q3 := push_fact L3 ok3 1 (by omega) (by omega) 1 b (by omega) hb.ok (by omega) (by omega) (hb.len (by omega) 1) 2 1
  have z3 : getL L3 (1, 1) = (addAll [] a).take n := by rw [f3, if_pos rfl, f2, if_neg (by simp), f1, if_pos rfl]
  have hl3 : ((addAll [] a).take n).length ≤ 8 := by rw [List.length_take]; omega
  rw [pushE_few (by rw [z3]; omega)] at q3
  have ok4 : LgOk (pushL L3 (1, 1) b) := LgOk.push ok3 _ _ hb.ok (by omega)
  have f4 : getL (pushL L3 (1, 1) b) (0, 1) = addAll [] a := by rw [pushL_few (by rw [z3]; omega), if_neg (by simp), f3, if_neg (by simp), f2, if_neg (by simp), f1, if_pos rfl]
  generalize pushL L3 (1, 1) b = L4 at q3 ok4 f4
  have s2 := same19_val ((addAll [] a).take n) ((addAll [] a).take n) (by omega)
  rw [show ((addAll [] a).take n == (addAll [] a).take n) = true by simp] at s2
  have r4 := log_sys L4 ok4 0 1 i0 i1 2 1
  rw [f4] at r4
  replace r4 := Lib.hid r4
  clear f1 f2 f3 f4 ok1 ok2 ok3 ok4 z1 z3 w2 wb
  generalize addAll [] a = wa at r1 r2 r4 w1 s1 s2 hl3
  generalize frB (pf 1 a) = B1 at p1 q1
  generalize frB (pf 3 b) = B2 at p2 q2
  generalize frB (pf 1 b) = B3 at p3 q3
  have hcut : wa.take (min n wa.length) = wa.take n := by
    by_cases hle : n ≤ wa.length
    · rw [Nat.min_eq_left hle]
    · rw [Nat.min_eq_right (by omega), List.take_length, List.take_of_length_le (by omega)]
  refine Run ?_ trivial trivial (⟨Try.func16, rfl, rfl⟩ : Inl Try.prog 16 _ _ _) trivial trivial trivial trivial trivial trivial trivial trivial trivial
  clear r1 q1 q2 p1 p2
  with_reducible apply TS_sliceRows_h (ls := wa) (n := min n wa.length)
  case hx => rfl
  case hz => rfl
  case hN => rfl
  case hh => omega
  case hlm => omega
  case hs => exact aput_ok rfl
  rw [hcut]
  replace r4 := r4.out
  refine Run ?_ trivial trivial trivial trivial trivial trivial trivial trivial trivial trivial trivial trivial
  rfl
theorem ServerForks_walk (w : World) (A : Option Addr) (n c : Nat) (a : List (List UInt8)) (ha : RSlice 1 RStr w [.slice A n c] a) (x : Int) (hx : (Lit.int .i64 x).wf = true) (A2 : Option Addr) (n2 c2 : Nat) (b : List (List UInt8)) (hb : RSlice 1 RStr w [.slice A2 n2 c2] b) : Calls Try.prog 7 #[.slice A n c, .int .i64 x, .slice A2 n2 c2] w (Tells w true) := by
  obtain ⟨h1, h2, _⟩ := RSlice.repsA1 AV.str RStr.repsA ha
  obtain ⟨h3, h4, _⟩ := RSlice.repsA1 AV.str RStr.repsA hb
  exact (ServerForks_law a b x h2 h4).tells (.cons h1 (.cons Reps_int (.one h3)))
end Go.Proofs.Ytnjkklkjlloedaa
