/- Law 19: ServerBlind. -/
import Derived.Test.YtnjkklkjlloedaaSvG
namespace Go.Proofs.Ytnjkklkjlloedaa
open Go.RowKit
set_option linter.unusedVariables false
set_option linter.unusedSimpArgs false
set_option maxRecDepth 10000
/-- The bytes of links in a frame. -/
def lkN (ls : List (List UInt8)) : Nat := (ls.flatMap textB).length
theorem lkN_app (a b : List (List UInt8)) : lkN (a ++ b) = lkN a + lkN b := by simp [lkN]
theorem lkN_cons (x : List UInt8) (a : List (List UInt8)) : lkN (x :: a) = x.length + 2 + lkN a := by simp [lkN, textB]; omega
theorem lkN_le {m : Nat} : ∀ {ls : List (List UInt8)}, (∀ b ∈ ls, b.length ≤ m) → lkN ls ≤ ls.length * (m + 2)
  | [], h => by simp [lkN]
  | x :: r, h => by
    rw [lkN_cons, List.length_cons, Nat.succ_mul]
    have h1 := h x (List.mem_cons_self ..)
    have h2 := lkN_le (ls := r) (fun b hb => h b (List.mem_cons_of_mem _ hb))
    omega
theorem pf_len (c : Int) (ls : List (List UInt8)) : (frB (pf c ls)).length = 26 + lkN ls := by
  rw [frB_eq]
  simp only [pf, List.length_append, lkN]
  simp [numB, textB]
  omega
theorem bt_len (c : Int) (lg : List (List UInt8)) (k n : Nat) : (frB (bt c lg k n)).length = 26 + lkN ((lg.drop k).take n) := by
  rw [frB_eq]
  simp only [bt, List.length_append, lkN]
  simp [numB, textB]
  omega
theorem pullN_all {c : Int} {lg : List (List UInt8)} {k n : Nat} (h : (frB (bt c lg k n)).length ≤ 32768) : pullN c lg k n = n := by
  cases n with
  | zero => rfl
  | succ n => rw [pullN, if_neg (by omega)]
theorem addL_N (lg : List (List UInt8)) (b : List UInt8) : lkN (addL lg b) ≤ lkN lg + (b.length + 2) := by
  unfold addL
  split
  · omega
  · rw [lkN_app, lkN_cons]; simp [lkN]
theorem addAll_N : ∀ (ls lg : List (List UInt8)), lkN (addAll lg ls) ≤ lkN lg + lkN ls
  | [], lg => by simp [addAll]
  | x :: r, lg => by
    have h1 := addAll_N r (addL lg x)
    have h2 := addL_N lg x
    simp only [addAll]
    rw [lkN_cons]
    omega
theorem mem_addL (lg : List (List UInt8)) (b x : List UInt8) : x ∈ addL lg b ↔ x ∈ lg ∨ x = b := by
  unfold addL
  split
  · rename_i h
    exact ⟨.inl, fun h2 => h2.elim id fun h3 => h3 ▸ h⟩
  · simp
theorem mem_addAll : ∀ (ls lg : List (List UInt8)) (x : List UInt8), x ∈ addAll lg ls ↔ x ∈ lg ∨ x ∈ ls
  | [], lg, x => by simp [addAll]
  | y :: r, lg, x => by
    simp only [addAll]
    rw [mem_addAll r, mem_addL, List.mem_cons]
    constructor
    · rintro ((h | h) | h)
      · exact .inl h
      · exact .inr (.inl h)
      · exact .inr (.inr h)
    · rintro (h | h | h)
      · exact .inl (.inl h)
      · exact .inl (.inr h)
      · exact .inr h
theorem pull_whole {c : Int} {lg : List (List UInt8)} (h8 : lg.length ≤ 8) (hn : 26 + lkN lg ≤ 32768) : pullR c lg 0 = okA (frB ⟨3, c, 0, lg, []⟩) := by
  rw [pullR, if_neg (by omega), show min 8 (lg.length - 0) = lg.length by omega, pullN_all (by rw [bt_len, List.drop_zero, List.take_length]; omega), bt, List.drop_zero, List.take_length]
  rfl
theorem dec_whole {c : Int} {lg : List (List UInt8)} (hc : 1 ≤ c ∧ c ≤ 1099511627776) (hl : LksOk lg) (h8 : lg.length ≤ 8) (hn : 26 + lkN lg ≤ 32768) : AVal Try.prog 23 [bsA (frB ⟨3, c, 0, lg, []⟩)] (.tup [.agg [.int .i64 3, .int .i64 c, .int .i64 0, lkA lg, .sl .none [] 0], .int .i64 0]) := by
  have h1 : bt c lg 0 lg.length = ⟨3, c, 0, lg, []⟩ := by rw [bt, List.drop_zero, List.take_length]; rfl
  have h2 := dec_frB (bt_ok (c := c) (lg := lg) (k := 0) (n := lg.length) hc (by omega) hl h8)
  rw [if_neg (by rw [bt_len, List.drop_zero, List.take_length]; omega), h1] at h2
  exact h2
theorem ServerBlind_law (l : List (List UInt8)) (hq : l.length ≤ 9223372036854775807) : ACalls Try.prog 6 [lkA l] ⟨[], [], 0⟩ (fun rv _ => rv = .bool true) := by
  refine ACalls_body Try.func6 rfl rfl ?_
  simp only [Try.ntmps6, List.length_cons, List.length_nil, Nat.reduceAdd, Nat.reduceSub, List.replicate_succ, List.replicate_zero, List.cons_append, List.nil_append]
  have h0 := anchor19_val
  have e1 := small19_val l hq
  by_cases g2 : smLk l
  case neg =>
    rw [decide_eq_false g2] at e1
    refine Run ?_ trivial trivial trivial trivial trivial trivial trivial trivial trivial trivial trivial trivial
    rfl
  rw [decide_eq_true g2] at e1
  have e2 := pf_right l (by have := g2.1; omega)
  by_cases g3 : FrOk (pf 1 l)
  case neg =>
    rw [decide_eq_false g3] at e2
    refine Run ?_ trivial trivial trivial trivial trivial trivial trivial trivial trivial trivial trivial trivial
    rfl
  rw [decide_eq_true g3] at e2
  have e3 := pf_bytes g3
  by_cases g4 : 32000 < (frB (pf 1 l)).length
  · refine Run ?_ trivial trivial trivial trivial trivial trivial trivial trivial trivial trivial trivial trivial
    rfl
  have hl : LksOk l := g3.links.2
  have h8 : l.length ≤ 8 := g3.links.1
  have h1 : 1 ≤ l.length := by
    obtain ⟨_, _, _, _, h | h | h | h⟩ := g3
    · have := h.2.1.1; simp only [pf] at this; omega
    · simp [pf] at h
    · simp [pf] at h
    · simp [pf] at h
  have e4 := push_fact [] LgOk.nil 0 (by omega) (by omega) 1 l (by omega) hl h1 h8 (by omega) 2 1
  have hE : pushE [] (0, 1) l = 0 := by rw [pushE, if_neg (by have := addAll_le l []; simp only [getL, List.length_nil] at this ⊢; omega)]
  rw [hE] at e4
  have ok1 : LgOk (pushL [] (0, 1) l) := LgOk.push LgOk.nil _ _ hl h1
  have hg : getL (pushL [] (0, 1) l) (0, 1) = addAll [] l := by rw [getL_push, if_pos rfl, if_neg (by have := addAll_le l []; simp only [getL, List.length_nil] at this ⊢; omega)]; rfl
  have hN := addAll_N l []
  have hP := pf_len 1 l
  have hlg := addAll_le l []
  rw [List.length_nil, Nat.zero_add] at hlg
  have hlk : LksOk (addAll [] l) := addAll_ok (fun b hb => absurd hb List.not_mem_nil) hl
  have hmem : ∀ x ∈ l, x ∈ addAll [] l := fun x hx => (mem_addAll l [] x).2 (.inr hx)
  have e5 := pull_fact _ ok1 0 (by omega) (by omega) 1 0 (by omega) (by omega) 2 1
  rw [hg, pull_whole (by omega) (by simp only [lkN, List.flatMap_nil, List.length_nil] at hN hP ⊢; omega)] at e5
  have e6 := dec_whole (c := 1) (lg := addAll [] l) (by omega) hlk (by omega) (by simp only [lkN, List.flatMap_nil, List.length_nil] at hN hP ⊢; omega)
  have e7 := log_sys _ ok1 0 1 ⟨by omega, by omega⟩ ⟨by omega, by omega⟩ 2 1
  rw [hg] at e7
  have e8 := same19_val (addAll [] l) (addAll [] l) (by omega)
  rw [show (addAll [] l == addAll [] l) = true by simp] at e8
  have e9 : AVal Try.prog 20 [.agg [.int .i64 2, .int .i64 1, .int .i64 0, .sl .none [] 0, .sl .none [] 0]] (bsA (frB (qf 1 0))) := qf_bytes (c := 1) (k := 0) (by omega) (by omega)
  clear hN hP hg hlk ok1 hE
  generalize addAll [] l = lg at hlg hmem e5 e6 e7 e8
  generalize pushL [] (0, 1) l = L1 at e4 e5 e7
  generalize frB (qf 1 0) = B1 at e5 e9
  generalize frB (⟨3, 1, 0, lg, []⟩ : Fr) = B2 at e5 e6
  refine Run ?_ trivial trivial (⟨Try.func16, rfl, rfl⟩ : Inl Try.prog 16 _ _ _) trivial trivial trivial trivial trivial trivial trivial trivial trivial
  clear e1 e2 e3 e4 e5 e6 e7 e8 e9 h0
  refine AWP_loopS [2, 12, 13, 15, 74, 75, 76, 77, 78, 79, 80, 81, 82, 83, 84, 85, 86, 87, 88, 89, 90, 91, 92, 93, 94, 95, 96, 97, 98] (N := Nat × List AV) (fun ⟨k, js⟩ => [js.getD 0 .und, js.getD 1 .und, js.getD 2 .und, js.getD 3 .und, lkA l, .int .i64 (l.length : Int), .int .i64 (k : Int), js.getD 4 .und, js.getD 5 .und, js.getD 6 .und, js.getD 7 .und, js.getD 8 .und, js.getD 9 .und, js.getD 10 .und, js.getD 11 .und, js.getD 12 .und, js.getD 13 .und, js.getD 14 .und, js.getD 15 .und, js.getD 16 .und, js.getD 17 .und, js.getD 18 .und, js.getD 19 .und, js.getD 20 .und, js.getD 21 .und, js.getD 22 .und, js.getD 23 .und, js.getD 24 .und, js.getD 25 .und]) (fun ⟨k, js⟩ => ⟨[(3, [.int .i64 3, .int .i64 1, .int .i64 0, lkA lg, .sl .none [] 0]), (2, [.map 1]), (0, [.int .i64 1, .int .i64 1, .int .i64 0, lkA l, .nils])], [(1, mpT L1)], 4⟩) (fun ⟨k, js⟩ => k ≤ l.length) (fun ⟨k, js⟩ => l.length - k) ⟨0, [_, _, _, _, _, _, _, _, _, _, _, _, _, _, _, _, _, _, _, _, _, _, _, _, _, _]⟩ rfl rfl ?hi0 ?_
  rotate_left
  rintro ⟨k, js⟩ sl_ hs hi
  simp only [setsF, setF, Option.some.injEq] at hs
  subst hs
  case hi0 => exact Nat.zero_le _
  by_cases hlt : k < l.length
  · have hel : l[k]? = some l[k] := List.getElem?_eq_getElem hlt
    have hc : (l.map bsA)[k]? = some (bsA l[k]) := by rw [List.getElem?_map, hel]; rfl
    have hx := hmem l[k] (List.getElem_mem hlt)
    generalize l[k] = x at hel hc hx
    refine Run ?_ trivial trivial trivial trivial trivial trivial trivial trivial trivial trivial trivial trivial
    refine AWP_loopS [13, 15, 81, 82, 83, 84, 85, 86, 87, 88, 89, 90, 91, 92, 93, 94, 95] (N := Nat × Bool × List AV) (fun ⟨j, fd, js⟩ => [.bool fd, js.getD 0 .und, lkA lg, .int .i64 (lg.length : Int), .int .i64 (j : Int), js.getD 1 .und, js.getD 2 .und, js.getD 3 .und, js.getD 4 .und, js.getD 5 .und, js.getD 6 .und, js.getD 7 .und, js.getD 8 .und, js.getD 9 .und, js.getD 10 .und, js.getD 11 .und, js.getD 12 .und]) (fun ⟨j, fd, js⟩ => ⟨[(3, [.int .i64 3, .int .i64 1, .int .i64 0, lkA lg, .sl .none [] 0]), (2, [.map 1]), (0, [.int .i64 1, .int .i64 1, .int .i64 0, lkA l, .nils])], [(1, mpT L1)], 4⟩) (fun ⟨j, fd, js⟩ => j ≤ lg.length ∧ (fd = true ↔ x ∈ lg.take j)) (fun ⟨j, fd, js⟩ => lg.length - j) ⟨0, false, [_, _, _, _, _, _, _, _, _, _, _, _, _]⟩ rfl rfl ?hi0 ?_
    rotate_left
    rintro ⟨j, fd, js⟩ sl_ hs hi
    simp only [setsF, setF, Option.some.injEq] at hs
    subst hs
    case hi0 => exact ⟨Nat.zero_le _, by simp⟩
    obtain ⟨hj, hfd⟩ := hi
    by_cases hlt2 : j < lg.length
    · obtain ⟨y, hy⟩ : ∃ y, lg[j]? = some y := ⟨_, List.getElem?_eq_getElem hlt2⟩
      have hcy : (lg.map bsA)[j]? = some (bsA y) := by rw [List.getElem?_map, hy]; rfl
      have hst : x ∈ lg.take (j + 1) ↔ x ∈ lg.take j ∨ x = y := by rw [List.take_add_one, hy]; simp
      cases fd with
      | true =>
        refine Run ?_ trivial trivial trivial trivial trivial trivial trivial trivial trivial trivial trivial trivial
        refine ALoopQ_normal ⟨j + 1, true, [_, _, _, _, _, _, _, _, _, _, _, _, _]⟩ rfl rfl ?hi1 ?hm1
        case hi1 => exact ⟨by omega, by rw [hst, ← hfd]; simp⟩
        case hm1 => simp only; omega
      | false =>
        refine Run ?_ trivial trivial trivial trivial trivial trivial trivial trivial trivial trivial trivial trivial
        refine ALoopQ_normal ⟨j + 1, x == y, [_, _, _, _, _, _, _, _, _, _, _, _, _]⟩ rfl rfl ?hi1 ?hm1
        case hi1 => exact ⟨by omega, by rw [hst, ← hfd]; simp⟩
        case hm1 => simp only; omega
    obtain rfl : j = lg.length := by omega
    rw [List.take_length] at hfd
    obtain rfl := hfd.2 hx
    refine Run ?_ trivial trivial trivial trivial trivial trivial trivial trivial trivial trivial trivial trivial
    refine ALoopQ_normal ⟨k + 1, [_, _, _, _, _, _, _, _, _, _, _, _, _, _, _, _, _, _, _, _, _, _, _, _, _, _]⟩ rfl rfl ?hi1 ?hm1
    case hi1 => omega
    case hm1 => simp only; omega
  obtain rfl : k = l.length := by omega
  refine Run ?_ trivial trivial trivial trivial trivial trivial trivial trivial trivial trivial trivial trivial
  rfl
theorem ServerBlind_walk (w : World) (A : Option Addr) (n c : Nat) (l : List (List UInt8)) (hl : RSlice 1 RBytes w [.slice A n c] l) : Calls Try.prog 6 #[.slice A n c] w (Tells w true) := (ServerBlind_law l (RLinks.repsA hl).2).tells (.one (RLinks.repsA hl).1)
end Go.Proofs.Ytnjkklkjlloedaa
