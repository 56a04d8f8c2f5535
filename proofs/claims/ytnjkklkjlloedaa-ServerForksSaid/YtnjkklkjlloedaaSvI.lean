/- Law 19: ServerReads. -/
import Derived.Test.YtnjkklkjlloedaaSvH
namespace Go.Proofs.Ytnjkklkjlloedaa
open Go.RowKit
set_option linter.unusedVariables false
set_option linter.unusedSimpArgs false
set_option maxRecDepth 10000
theorem pullN_le (c : Int) (lg : List (List UInt8)) (k : Nat) : ∀ n, pullN c lg k n ≤ n
  | 0 => Nat.le_refl _
  | n + 1 => by
    rw [pullN]
    split
    · have := pullN_le c lg k n; omega
    · omega
theorem pullN_fits (c : Int) (lg : List (List UInt8)) (k : Nat) : ∀ n, (frB (bt c lg k (pullN c lg k n))).length ≤ 32768
  | 0 => by rw [pullN, bt_nil]; omega
  | n + 1 => by
    rw [pullN]
    split
    · exact pullN_fits c lg k n
    · omega
theorem pullN_pos {c : Int} {lg : List (List UInt8)} {k : Nat} (hl : LksOk lg) : ∀ n, 1 ≤ n → 1 ≤ pullN c lg k n
  | 0, h => by omega
  | n + 1, _ => by
    rw [pullN]
    split
    · rename_i h
      by_cases h1 : 1 ≤ n
      · exact pullN_pos hl n h1
      · obtain rfl : n = 0 := by omega
        rw [bt_len] at h
        have h2 := lkN_le (m := 4096) (ls := (lg.drop k).take (0 + 1)) (fun b hb => (hl b (List.mem_of_mem_drop (List.mem_of_mem_take hb))).2)
        have h3 : ((lg.drop k).take (0 + 1)).length ≤ 1 := by rw [List.length_take]; omega
        omega
    · omega
/-- What a pull tells: the next links, some if there are some. -/
theorem pull_some {c : Int} {lg : List (List UInt8)} {p : Nat} (hc : 1 ≤ c ∧ c ≤ 1099511627776) (hl : LksOk lg) (hp : p ≤ lg.length) (hp64 : p ≤ 64) : ∃ ys B, pullR c lg p = okA B ∧ AVal Try.prog 23 [bsA B] (.tup [.agg [.int .i64 3, .int .i64 c, .int .i64 (p : Int), lkA ys, .sl .none [] 0], .int .i64 0]) ∧ lg.take (p + ys.length) = lg.take p ++ ys ∧ p + ys.length ≤ lg.length ∧ (p < lg.length → 1 ≤ ys.length) := by
  have h1 := pullN_le c lg p (min 8 (lg.length - p))
  have h2 := pullN_fits c lg p (min 8 (lg.length - p))
  have h3 := pullN_pos (c := c) (k := p) hl (min 8 (lg.length - p))
  refine ⟨(lg.drop p).take (pullN c lg p (min 8 (lg.length - p))), frB (bt c lg p (pullN c lg p (min 8 (lg.length - p)))), ?_, ?_, ?_, ?_, ?_⟩
  · rw [pullR, if_neg (by omega)]
  · have h4 := dec_frB (bt_ok (c := c) (lg := lg) (k := p) (n := pullN c lg p (min 8 (lg.length - p))) hc hp64 hl (by omega))
    rw [if_neg (by omega)] at h4
    exact h4
  · rw [List.length_take, List.length_drop, Nat.min_eq_left (by omega), List.take_add]
  · rw [List.length_take, List.length_drop]; omega
  · rw [List.length_take, List.length_drop]; omega
set_option maxHeartbeats 8000000 in
theorem ServerReads_law (l : List (List UInt8)) (hq : l.length ≤ 9223372036854775807) : ACalls Try.prog 4 [lkA l] ⟨[], [], 0⟩ (fun rv _ => rv = .bool true) := by
  refine ACalls_body Try.func4 rfl rfl ?_
  simp only [Try.ntmps4, List.length_cons, List.length_nil, Nat.reduceAdd, Nat.reduceSub, List.replicate_succ, List.replicate_zero, List.cons_append, List.nil_append]
  have h0 := anchor19_val
  by_cases g1 : 64 < l.length
  · refine Run ?_ trivial trivial trivial trivial trivial trivial trivial trivial trivial trivial trivial trivial
    rfl
  refine Run ?_ trivial trivial (⟨Try.func16, rfl, rfl⟩ : Inl Try.prog 16 _ _ _) trivial trivial trivial trivial trivial trivial trivial trivial trivial
  refine AWP_loopW [2, 5, 6, 21, 22, 23, 24, 25, 26, 27, 28, 29, 30, 31, 32, 33, 34, 35, 36, 37, 38, 39] (N := Nat × Int × Lg × List AV) (fun ⟨k, nx, L, js⟩ => [js.getD 0 .und, js.getD 1 .und, js.getD 2 .und, lkA l, .int .i64 (l.length : Int), .int .i64 (k : Int), js.getD 3 .und, js.getD 4 .und, js.getD 5 .und, js.getD 6 .und, js.getD 7 .und, js.getD 8 .und, js.getD 9 .und, js.getD 10 .und, js.getD 11 .und, js.getD 12 .und, js.getD 13 .und, js.getD 14 .und, js.getD 15 .und, js.getD 16 .und, js.getD 17 .und, js.getD 18 .und]) (fun ⟨k, nx, L, js⟩ => ⟨[(1, [.map 0])], [(0, mpT L)], nx⟩) (fun ⟨k, nx, L, js⟩ => 2 ≤ nx ∧ k ≤ l.length ∧ LgOk L) (fun ⟨k, nx, L, js⟩ => l.length - k) ⟨0, 2, [], [_, _, _, _, _, _, _, _, _, _, _, _, _, _, _, _, _, _, _]⟩ rfl ?hs0 ?hi0 ?_
  rotate_left 2
  rintro ⟨k, nx, L, js⟩ sl_ hs hi
  simp only [setsF, setF, Option.some.injEq] at hs
  subst hs
  case hs0 => exact ASub.refl _
  case hi0 => exact ⟨by omega, by omega, LgOk.nil⟩
  obtain ⟨hnx, hk, ok⟩ := hi
  by_cases hlt : k < l.length
  · have hel : l[k]? = some l[k] := List.getElem?_eq_getElem hlt
    have hc : (l.map bsA)[k]? = some (bsA l[k]) := by rw [List.getElem?_map, hel]; rfl
    generalize l[k] = x at hel hc
    by_cases g2 : 4200 < x.length
    · refine Run ?_ trivial trivial trivial trivial trivial trivial trivial trivial trivial trivial trivial trivial
      rfl
    have e2 := pf_right [x] (by simp)
    simp only [lkA, List.map_cons, List.map_nil, List.length_cons, List.length_nil, Nat.zero_add] at e2
    by_cases g3 : FrOk (pf 1 [x])
    · rw [decide_eq_true g3] at e2
      have e3 := pf_bytes g3
      simp only [lkA, List.map_cons, List.map_nil, List.length_cons, List.length_nil, Nat.zero_add] at e3
      have e4 := nx_fact L ok [x] g3 1 0
      have ok2 := nxL_ok ok g3
      generalize nxL L [x] = L2 at e4 ok2
      generalize nxE L [x] = E2 at e4
      generalize frB (pf 1 [x]) = B2 at e3 e4
      refine Run ?_ trivial trivial trivial trivial trivial trivial trivial trivial trivial trivial trivial trivial
      refine ALoopW_normal ⟨k + 1, nx + 1, L2, [_, _, _, _, _, _, _, _, _, _, _, _, _, _, _, _, _, _, _]⟩ rfl ?hs1 ?hi1 ?hm1
      case hs1 => exact (ASub.refl _).drop (by simp only [alook]; rw [if_neg (by omega)])
      case hi1 => exact ⟨by omega, by omega, ok2⟩
      case hm1 => simp only; omega
    · rw [decide_eq_false g3] at e2
      refine Run ?_ trivial trivial trivial trivial trivial trivial trivial trivial trivial trivial trivial trivial
      refine ALoopW_normal ⟨k + 1, nx + 1, L, [_, _, _, _, _, _, _, _, _, _, _, _, _, _, _, _, _, _, _]⟩ rfl ?hs1 ?hi1 ?hm1
      case hs1 => exact (ASub.refl _).drop (by simp only [alook]; rw [if_neg (by omega)])
      case hi1 => exact ⟨by omega, by omega, ok⟩
      case hm1 => simp only; omega
  obtain rfl : k = l.length := by omega
  have e6 := log_sys L ok 0 1 ⟨by omega, by omega⟩ ⟨by omega, by omega⟩ 1 0
  have hm := ok.most (0, 1)
  have hlk := ok.links (0, 1)
  have hpull := fun (p : Nat) (hp : p ≤ 64) => pull_fact L ok 0 (by omega) (by omega) 1 p (by omega) hp 1 0
  generalize getL L (0, 1) = lg at e6 hm hlk hpull
  refine Run ?_ trivial trivial trivial trivial trivial trivial trivial trivial trivial trivial trivial trivial
  clear hk hlt e6
  refine AWP_adopt 7 1 rfl (by simp only [setF]; rfl) ?_
  refine AWP_loopW [2, 7, 9, 10, 11, 12, 42, 43, 44, 45, 46, 47, 48, 49, 50, 51, 52, 53, 54, 55, 56, 57, 58, 59, 60, 61, 62, 63, 64, 65, 66, 67, 68, 69, 70, 71, 72, 73, 74, 75, 76, 77, 78, 79, 80, 81, 82, 83, 84, 85, 86, 87, 88] (N := Nat × Int × Nat × List AV × List AV) (fun ⟨r, n2, p, cs, js⟩ => [js.getD 0 .und, .sl (.tok nx p 1) cs p, js.getD 1 .und, js.getD 2 .und, js.getD 3 .und, js.getD 4 .und, .int .i64 (r : Int), js.getD 5 .und, js.getD 6 .und, js.getD 7 .und, js.getD 8 .und, js.getD 9 .und, js.getD 10 .und, js.getD 11 .und, js.getD 12 .und, js.getD 13 .und, js.getD 14 .und, js.getD 15 .und, js.getD 16 .und, js.getD 17 .und, js.getD 18 .und, js.getD 19 .und, js.getD 20 .und, js.getD 21 .und, js.getD 22 .und, js.getD 23 .und, js.getD 24 .und, js.getD 25 .und, js.getD 26 .und, js.getD 27 .und, js.getD 28 .und, js.getD 29 .und, js.getD 30 .und, js.getD 31 .und, js.getD 32 .und, js.getD 33 .und, js.getD 34 .und, js.getD 35 .und, js.getD 36 .und, js.getD 37 .und, js.getD 38 .und, js.getD 39 .und, js.getD 40 .und, js.getD 41 .und, js.getD 42 .und, js.getD 43 .und, js.getD 44 .und, js.getD 45 .und, js.getD 46 .und, js.getD 47 .und, js.getD 48 .und, js.getD 49 .und, js.getD 50 .und]) (fun ⟨r, n2, p, cs, js⟩ => ⟨[(1, [.map 0])], [(nx, p), (0, mpT L)], n2⟩) (fun ⟨r, n2, p, cs, js⟩ => nx < n2 ∧ r ≤ 64 ∧ p ≤ lg.length ∧ (r ≤ p ∨ p = lg.length) ∧ cs = (lg.take p).map bsA) (fun ⟨r, n2, p, cs, js⟩ => 64 - r) ⟨0, nx + 1, 0, [], [_, _, _, _, _, _, _, _, _, _, _, _, _, _, _, _, _, _, _, _, _, _, _, _, _, _, _, _, _, _, _, _, _, _, _, _, _, _, _, _, _, _, _, _, _, _, _, _, _, _, _]⟩ rfl ?hs0 ?hi0 ?_
  rotate_left 2
  rintro ⟨r, n2, p, cs, js⟩ sl_ hs hi
  simp only [setsF, setF, Option.some.injEq] at hs
  subst hs
  case hs0 => exact ASub.refl _
  case hi0 => exact ⟨by omega, by omega, by omega, .inl (by omega), by simp⟩
  obtain ⟨hn2, hr, hp, hrp, hcs⟩ := hi
  by_cases hlt2 : r < 64
  · obtain ⟨ys, B, f1, f2, f3, f4, f5⟩ := pull_some (c := 1) (lg := lg) (p := p) (by omega) hlk hp (by omega)
    have e1 := hpull p (by omega)
    rw [f1] at e1
    have e2 := qf_bytes (c := 1) (k := p) (by omega) (by omega)
    generalize frB (qf 1 p) = B2 at e1 e2
    clear f1
    have f6 : (lg.take (p + ys.length)).map bsA = cs ++ ys.map bsA := by rw [f3, List.map_append, hcs]
    by_cases h1 : ys.length = 0
    · have h2 : p = lg.length := by omega
      refine Run ?_ trivial trivial trivial trivial trivial trivial trivial trivial trivial trivial trivial trivial
      refine ALoopW_normal ⟨r + 1, n2 + 1, p + ys.length, _, [_, _, _, _, _, _, _, _, _, _, _, _, _, _, _, _, _, _, _, _, _, _, _, _, _, _, _, _, _, _, _, _, _, _, _, _, _, _, _, _, _, _, _, _, _, _, _, _, _, _, _]⟩ rfl ?hs1 ?hi1 ?hm1
      case hs1 => exact (ASub.refl _).drop (by simp only [alook]; rw [if_neg (by omega)])
      case hi1 => exact ⟨by omega, by omega, by omega, by omega, f6.symm⟩
      case hm1 => simp only; omega
    · refine Run ?_ trivial trivial trivial trivial trivial trivial trivial trivial trivial trivial trivial trivial
      refine ALoopW_normal ⟨r + 1, n2 + 1, p + ys.length, _, [_, _, _, _, _, _, _, _, _, _, _, _, _, _, _, _, _, _, _, _, _, _, _, _, _, _, _, _, _, _, _, _, _, _, _, _, _, _, _, _, _, _, _, _, _, _, _, _, _, _, _]⟩ rfl ?hs1 ?hi1 ?hm1
      case hs1 => exact (ASub.refl _).drop (by simp only [alook]; rw [if_neg (by omega)])
      case hi1 => exact ⟨by omega, by omega, by omega, by omega, f6.symm⟩
      case hm1 => simp only; omega
  obtain rfl : r = 64 := by omega
  obtain rfl : p = lg.length := by omega
  rw [List.take_length] at hcs
  subst hcs
  have e8 := same19_val lg lg (by omega)
  rw [show (lg == lg) = true by simp] at e8
  by_cases h64 : lg.length = 64
  · have e1 := hpull 64 (by omega)
    have e2 : AVal Try.prog 20 [.agg [.int .i64 2, .int .i64 1, .int .i64 (min ((lg.length : Int) + 1) 64), .sl .none [] 0, .sl .none [] 0]] (bsA (frB (qf 1 64))) := by
      have h := qf_bytes (c := 1) (k := 64) (by omega) (by omega)
      rwa [show ((64 : Nat) : Int) = min ((lg.length : Int) + 1) 64 by omega] at h
    obtain ⟨ys, B, f1, _⟩ := pull_some (c := 1) (lg := lg) (p := 64) (by omega) hlk (by omega) (by omega)
    rw [f1] at e1
    generalize frB (qf 1 64) = B2 at e1 e2
    clear f1
    refine Run ?_ trivial trivial trivial trivial trivial trivial trivial trivial trivial trivial trivial trivial
    rfl
  · have e1 := hpull (lg.length + 1) (by omega)
    rw [pullR, if_pos (by omega)] at e1
    have e2 : AVal Try.prog 20 [.agg [.int .i64 2, .int .i64 1, .int .i64 (min ((lg.length : Int) + 1) 64), .sl .none [] 0, .sl .none [] 0]] (bsA (frB (qf 1 (lg.length + 1)))) := by
      have h := qf_bytes (c := 1) (k := lg.length + 1) (by omega) (by omega)
      rwa [show ((lg.length + 1 : Nat) : Int) = min ((lg.length : Int) + 1) 64 by omega] at h
    generalize frB (qf 1 (lg.length + 1)) = B2 at e1 e2
    refine Run ?_ trivial trivial trivial trivial trivial trivial trivial trivial trivial trivial trivial trivial
    rfl
theorem ServerReads_walk (w : World) (A : Option Addr) (n c : Nat) (l : List (List UInt8)) (hl : RSlice 1 RBytes w [.slice A n c] l) : Calls Try.prog 4 #[.slice A n c] w (Tells w true) := (ServerReads_law l (RLinks.repsA hl).2).tells (.one (RLinks.repsA hl).1)
end Go.Proofs.Ytnjkklkjlloedaa
