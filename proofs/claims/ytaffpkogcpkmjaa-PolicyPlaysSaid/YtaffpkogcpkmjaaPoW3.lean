/- Law 10: PolicyGrants. -/
import Derived.Test.YtaffpkogcpkmjaaPoO
namespace Go.Proofs.Ytaffpkogcpkmjaa
open Go.RowKit
set_option linter.unusedVariables false
set_option linter.unusedSimpArgs false
set_option maxRecDepth 10000
def seatC (g : Int → Int) : List AV := (List.range 17).map fun w => .int .i64 (g (w : Nat))
theorem seatC_len (g : Int → Int) : (seatC g).length = 17 := by simp [seatC]
theorem seatC_at (g : Int → Int) {w : Int} (h0 : 0 ≤ w) (h1 : w < 17) : (seatC g)[0 + w.toNat * 1]? = some (.int .i64 (g w)) := by
  rw [Nat.zero_add, Nat.mul_one]
  unfold seatC
  rw [List.getElem?_map, List.getElem?_range (by omega)]
  simp only [Option.map_some]
  rw [Int.toNat_of_nonneg h0]
theorem seatC_set (g g' : Int → Int) {w r : Int} (h0 : 0 ≤ w) (h1 : w < 17) (hw : g' w = r) (hn : ∀ v, v ≠ w → g' v = g v) : (seatC g).set (0 + w.toNat * 1) (.int .i64 r) = seatC g' := by
  rw [Nat.zero_add, Nat.mul_one]
  apply List.ext_getElem?
  intro i
  rw [List.getElem?_set]
  by_cases hi : w.toNat = i
  · subst hi
    rw [if_pos rfl, if_pos (by rw [seatC_len]; omega)]
    have := seatC_at g' h0 h1
    rw [Nat.zero_add, Nat.mul_one] at this
    rw [this, hw]
  · rw [if_neg hi]
    by_cases h17 : i < 17
    · unfold seatC
      rw [List.getElem?_map, List.getElem?_map, List.getElem?_range h17]
      simp only [Option.map_some]
      rw [hn _ (by omega)]
    · rw [List.getElem?_eq_none (by rw [seatC_len]; omega), List.getElem?_eq_none (by rw [seatC_len]; omega)]
theorem odds_snoc (g : Int → Int) : ∀ (k : Nat) (lo : Int), (odds g (k + 1) lo).length = (odds g k lo).length + (if g (lo + k + 1) % 2 = 1 then 1 else 0)
  | 0, lo => by
    simp only [odds, List.append_nil, List.length_nil, Nat.zero_add, Int.natCast_zero, Int.add_zero]
    split <;> rfl
  | k + 1, lo => by
    have ih := odds_snoc g k (lo + 1)
    conv => lhs; unfold odds
    rw [List.length_append, ih]
    conv => rhs; unfold odds
    rw [List.length_append, show lo + 1 + (k : Int) + 1 = lo + ((k + 1 : Nat) : Int) + 1 by omega]
    omega
theorem odds_le (g : Int → Int) : ∀ (k : Nat) (lo : Int), (odds g k lo).length ≤ k
  | 0, lo => Nat.le_refl _
  | k + 1, lo => by
    have := odds_le g k (lo + 1)
    unfold odds
    rw [List.length_append]
    split <;> simp <;> omega
/-- A grant, or a revoke. -/
def grE (k s who r : Int) : En := ⟨k, 1, s, [], [], who, r, 0, []⟩
theorem grE_mid (k s who r : Int) : (grE k s who r).Mid := ⟨by simp [grE], by simp [grE], by simp [grE], by simp [grE]⟩
theorem gr3_ok {s who r : Int} (h1 : 1 ≤ s) (h2 : s ≤ 1099511627776) (h3 : 1 ≤ who) (h4 : who ≤ 16) (h5 : 1 ≤ r) (h6 : r ≤ 7) : EnOk (grE 3 s who r) :=
  ⟨(show (1 : Int) ≤ 3 by decide), (show (3 : Int) ≤ 5 by decide), (show (1 : Int) ≤ 1 by decide), (show (1 : Int) ≤ 16 by decide), h1, h2, (En.same_iff _ _).2 rfl, fun h => absurd (show (3 : Int) ≤ 2 from h) (by decide), fun _ => ⟨h3, h4, h5, h6⟩, fun h => absurd (show (3 : Int) = 4 from h) (by decide), fun h => absurd (show (3 : Int) = 5 from h) (by decide)⟩
theorem gr4_ok {s who : Int} (h1 : 1 ≤ s) (h2 : s ≤ 1099511627776) (h3 : 1 ≤ who) (h4 : who ≤ 16) : EnOk (grE 4 s who 0) :=
  ⟨(show (1 : Int) ≤ 4 by decide), (show (4 : Int) ≤ 5 by decide), (show (1 : Int) ≤ 1 by decide), (show (1 : Int) ≤ 16 by decide), h1, h2, (En.same_iff _ _).2 rfl, fun h => absurd (show (4 : Int) ≤ 2 from h) (by decide), fun h => absurd (show (4 : Int) = 3 from h) (by decide), fun _ => ⟨h3, h4⟩, fun h => absurd (show (4 : Int) = 5 from h) (by decide)⟩
theorem gr_may {p : Po} {k s who r : Int} (hp : PoOk p) (hf : p.founder = 1) (hk : k = 3 ∨ k = 4) (hw : 2 ≤ who) (he : EnOk (grE k s who r)) : mayN p (grE k s who r) = 0 := by
  have h7 := hp.2.2.2
  rw [hf] at h7
  unfold mayN
  rw [if_neg (by rw [Classical.not_not]; exact ⟨hp, he⟩), if_neg (by show ¬ k ≤ 2; omega), if_neg (by rintro ⟨_, g⟩; have : who = p.founder := g; omega), if_neg (by show ¬ rightsOf p.mem 1 < 4; omega), if_neg (by rintro ⟨g, _⟩; have : k = 5 := g; omega)]
theorem gr_rights {p : Po} {k s who r : Int} (hp : PoOk p) (hk : k = 3 ∨ (k = 4 ∧ r = 0)) : rightsOf (poApp p (grE k s who r)).mem who = r ∧ ∀ v, v ≠ who → rightsOf (poApp p (grE k s who r)).mem v = rightsOf p.mem v := by
  constructor
  · rw [poApp_rights hp]
    unfold gApp
    rcases hk with rfl | ⟨rfl, rfl⟩
    · rw [if_pos ⟨rfl, rfl⟩]; rfl
    · rw [if_neg (by rintro ⟨g, _⟩; have : (4 : Int) = 3 := g; omega), if_pos ⟨rfl, rfl⟩]
  · intro v hv
    rw [poApp_rights hp]
    unfold gApp
    rw [if_neg (fun g => hv g.2), if_neg (fun g => hv g.2)]
set_option maxHeartbeats 20000000 in
theorem PolicyGrants_law (l rs : List Int) (hm : l.length ≤ 9223372036854775807) (hm2 : rs.length ≤ 9223372036854775807) : ACalls Try.prog 13 [insA l, insA rs] ⟨[], [], 0⟩ (fun rv _ => rv = .bool true) := by
  refine ACalls_body Try.func13 rfl rfl ?_
  simp only [Try.ntmps13, List.length_cons, List.length_nil, Nat.reduceAdd, Nat.reduceSub, List.replicate_succ, List.replicate_zero, List.cons_append, List.nil_append]
  by_cases hb1 : 30 < l.length
  · refine RunB ?_ trivial trivial @anchor10_val trivial trivial trivial trivial trivial trivial trivial trivial trivial
    rfl
  by_cases hb2 : 30 < rs.length
  · refine RunB ?_ trivial trivial @anchor10_val trivial trivial trivial trivial trivial trivial trivial trivial trivial
    rfl
  have hF : AVal Try.prog 27 [.int .i64 1] (.tup [.agg [.int .i64 1, .int .i64 0, .sl .none [.int .i64 1, .int .i64 7] 1], .int .i64 0]) := first_val 1
  refine RunB ?_ trivial trivial @anchor10_val trivial trivial trivial trivial trivial trivial trivial trivial trivial
  refine AWP_loopW [4, 8, 9, 10, 11, 12, 13, 33, 34, 35, 36, 37, 38, 39, 40, 41, 42, 43, 44, 45, 46, 47, 48, 49, 50, 51, 52, 53, 54, 55, 56, 57, 58, 59, 60, 61, 62, 63, 64, 65, 66, 67, 68, 69, 70, 71, 72, 73, 74, 75, 76, 77, 78, 79, 80, 81, 82, 83, 84, 85, 86, 87, 88, 89, 90, 91, 92, 93, 94, 95, 96, 97, 98, 99, 100, 101, 102, 103, 104, 105, 106] (N := Nat × Int × Po × List AV) (fun ⟨k, nx, p, js⟩ => [js.getD 0 .und, js.getD 1 .und, js.getD 2 .und, js.getD 3 .und, js.getD 4 .und, js.getD 5 .und, js.getD 6 .und, insA l, .int .i64 (l.length : Int), .int .i64 (k : Int), js.getD 7 .und, js.getD 8 .und, js.getD 9 .und, js.getD 10 .und, js.getD 11 .und, js.getD 12 .und, js.getD 13 .und, js.getD 14 .und, js.getD 15 .und, js.getD 16 .und, js.getD 17 .und, js.getD 18 .und, js.getD 19 .und, js.getD 20 .und, js.getD 21 .und, js.getD 22 .und, js.getD 23 .und, js.getD 24 .und, js.getD 25 .und, js.getD 26 .und, js.getD 27 .und, js.getD 28 .und, js.getD 29 .und, js.getD 30 .und, js.getD 31 .und, js.getD 32 .und, js.getD 33 .und, js.getD 34 .und, js.getD 35 .und, js.getD 36 .und, js.getD 37 .und, js.getD 38 .und, js.getD 39 .und, js.getD 40 .und, js.getD 41 .und, js.getD 42 .und, js.getD 43 .und, js.getD 44 .und, js.getD 45 .und, js.getD 46 .und, js.getD 47 .und, js.getD 48 .und, js.getD 49 .und, js.getD 50 .und, js.getD 51 .und, js.getD 52 .und, js.getD 53 .und, js.getD 54 .und, js.getD 55 .und, js.getD 56 .und, js.getD 57 .und, js.getD 58 .und, js.getD 59 .und, js.getD 60 .und, js.getD 61 .und, js.getD 62 .und, js.getD 63 .und, js.getD 64 .und, js.getD 65 .und, js.getD 66 .und, js.getD 67 .und, js.getD 68 .und, js.getD 69 .und, js.getD 70 .und, js.getD 71 .und, js.getD 72 .und, js.getD 73 .und, js.getD 74 .und, js.getD 75 .und, js.getD 76 .und, js.getD 77 .und]) (fun ⟨k, nx, p, js⟩ => ⟨[(1, seatC (rightsOf p.mem)), (0, [.int .i64 p.founder, .int .i64 p.epoch, mbA p.mem])], [], nx⟩) (fun ⟨k, nx, p, js⟩ => k ≤ l.length ∧ PoOk p ∧ p.founder = 1 ∧ 2 ≤ nx) (fun ⟨k, nx, p, js⟩ => l.length - k) ⟨0, 2, p1 1, [_, _, _, _, _, _, _, _, _, _, _, _, _, _, _, _, _, _, _, _, _, _, _, _, _, _, _, _, _, _, _, _, _, _, _, _, _, _, _, _, _, _, _, _, _, _, _, _, _, _, _, _, _, _, _, _, _, _, _, _, _, _, _, _, _, _, _, _, _, _, _, _, _, _, _, _, _, _]⟩ rfl ?hs0 ?hi0 ?_
  rotate_left 2
  rintro ⟨k, nx, p, js⟩ sl_ hs hi
  simp only [setsF, setF, Option.some.injEq] at hs
  subst hs
  case hs0 => exact ASub.refl _
  case hi0 => exact ⟨by omega, (p1_ok 1).2 (by omega), rfl, by omega⟩
  obtain ⟨hk, hp, hfo, hnx⟩ := hi
  have hpl := hp.len
  by_cases hlt : k < l.length
  · have c0 := inA_get hlt
    generalize hx : l[k] = x at *
    by_cases hr : k < rs.length
    · have c1 := inA_get hr
      generalize hy : rs[k] = r at *
      by_cases d1 : x < 2
      · refine RunB ?_ trivial trivial trivial trivial trivial trivial trivial trivial trivial trivial trivial trivial
        rfl
      by_cases d2 : 16 < x
      · refine RunB ?_ trivial trivial trivial trivial trivial trivial trivial trivial trivial trivial trivial trivial
        rfl
      by_cases d3 : r < 0
      · refine RunB ?_ trivial trivial trivial trivial trivial trivial trivial trivial trivial trivial trivial trivial
        rfl
      by_cases d4 : 7 < r
      · refine RunB ?_ trivial trivial trivial trivial trivial trivial trivial trivial trivial trivial trivial trivial
        rfl
      by_cases d5 : r = 0
      · have hok : EnOk (grE 4 (k + 1) x r) := by rw [d5]; exact gr4_ok (by omega) (by omega) (by omega) (by omega)
        have hmay := gr_may hp hfo (.inr rfl) (by omega) hok
        have hgr := gr_rights (p := p) (k := 4) (s := k + 1) (who := x) (r := r) hp (.inr ⟨rfl, d5⟩)
        obtain ⟨q, hq⟩ : ∃ q, q = poApp p (grE 4 (k + 1) x r) := ⟨_, rfl⟩
        have hA : AVal Try.prog 30 [poA p, .agg [.int .i64 4, .int .i64 1, .int .i64 ((k : Int) + 1), .sl .none [] 0, .sl .none [] 0, .int .i64 x, .int .i64 r, .int .i64 0, .sl .none [] 0]] (.tup [poA q, .int .i64 0]) := by
          have := apply_val p (grE 4 (k + 1) x r) (by omega) (grE_mid ..) (by simp [grE])
          unfold apR apP at this
          rw [hmay, if_pos rfl, ← hq] at this
          exact this
        have hqo := poApp_ok hmay
        have hqf := poApp_founder p (grE 4 (k + 1) x r)
        rw [← hq] at hqo hqf hgr
        have hset := seatC_set (rightsOf p.mem) (rightsOf q.mem) (w := x) (r := r) (by omega) (by omega) hgr.1 hgr.2
        have hql := hqo.len
        have hle : 0 + x.toNat * 1 < (seatC (rightsOf p.mem)).length := by rw [seatC_len]; omega
        clear hq
        refine RunB ?_ trivial trivial trivial trivial trivial trivial trivial trivial trivial @mbCs_wk trivial trivial
        rw [hset]
        refine AWP_loopS [4, 13, 95, 96, 97, 98, 99, 100, 101, 102, 103, 104, 105] (N := Nat × List AV) (fun ⟨w, js⟩ => [js.getD 0 .und, .int .i64 (w : Int), js.getD 1 .und, js.getD 2 .und, js.getD 3 .und, js.getD 4 .und, js.getD 5 .und, js.getD 6 .und, js.getD 7 .und, js.getD 8 .und, js.getD 9 .und, js.getD 10 .und, js.getD 11 .und]) (fun ⟨w, js⟩ => ⟨[(nx + 1, [.int .i64 q.founder, .int .i64 q.epoch, mbA q.mem]), (nx, [.int .i64 4, .int .i64 1, .int .i64 ((k : Int) + 1), .nils, .nils, .int .i64 x, .int .i64 r, .int .i64 0, .nils]), (1, seatC (rightsOf q.mem)), (0, [.int .i64 q.founder, .int .i64 q.epoch, mbA q.mem])], [], nx + 1 + 1⟩) (fun ⟨w, js⟩ => 1 ≤ w ∧ w ≤ 17) (fun ⟨w, js⟩ => 17 - w) ⟨1, [_, _, _, _, _, _, _, _, _, _, _, _]⟩ rfl rfl ?hi0 ?_
        rotate_left
        rintro ⟨w, js⟩ sl_ hs hi
        simp only [setsF, setF, Option.some.injEq] at hs
        subst hs
        case hi0 => exact ⟨by omega, by omega⟩
        obtain ⟨hw1, hw17⟩ := hi
        by_cases hwl : w < 17
        · have r1 := rights_val q (w : Int) (by omega)
          have hat := seatC_at (rightsOf q.mem) (w := (w : Int)) (by omega) (by omega)
          refine RunB ?_ trivial trivial trivial trivial trivial trivial trivial trivial trivial trivial trivial trivial
          refine ALoopQ_normal ⟨w + 1, [_, _, _, _, _, _, _, _, _, _, _, _]⟩ rfl rfl ?hi1 ?hm1
          case hi1 => exact ⟨by omega, by omega⟩
          case hm1 => simp only; omega
        · obtain rfl : w = 17 := by omega
          refine RunB ?_ trivial trivial trivial trivial trivial trivial trivial trivial trivial trivial trivial trivial
          refine ALoopW_normal ⟨k + 1, nx + 1 + 1, q, [_, _, _, _, _, _, _, _, _, _, _, _, _, _, _, _, _, _, _, _, _, _, _, _, _, _, _, _, _, _, _, _, _, _, _, _, _, _, _, _, _, _, _, _, _, _, _, _, _, _, _, _, _, _, _, _, _, _, _, _, _, _, _, _, _, _, _, _, _, _, _, _, _, _, _, _, _, _]⟩ rfl ?hs1 ?hi1 ?hm1
          case hs1 => exact ((ASub.refl _).drop (by simp only [alook]; repeat (first | rw [if_neg (by omega)]))).drop (by simp only [alook]; repeat (first | rw [if_neg (by omega)]))
          case hi1 => exact ⟨by omega, hqo, by rw [hqf]; exact hfo, by omega⟩
          case hm1 => simp only; omega
      · have hok : EnOk (grE 3 (k + 1) x r) := gr3_ok (by omega) (by omega) (by omega) (by omega) (by omega) (by omega)
        have hmay := gr_may hp hfo (.inl rfl) (by omega) hok
        have hgr := gr_rights (p := p) (k := 3) (s := k + 1) (who := x) (r := r) hp (.inl rfl)
        obtain ⟨q, hq⟩ : ∃ q, q = poApp p (grE 3 (k + 1) x r) := ⟨_, rfl⟩
        have hA : AVal Try.prog 30 [poA p, .agg [.int .i64 3, .int .i64 1, .int .i64 ((k : Int) + 1), .sl .none [] 0, .sl .none [] 0, .int .i64 x, .int .i64 r, .int .i64 0, .sl .none [] 0]] (.tup [poA q, .int .i64 0]) := by
          have := apply_val p (grE 3 (k + 1) x r) (by omega) (grE_mid ..) (by simp [grE])
          unfold apR apP at this
          rw [hmay, if_pos rfl, ← hq] at this
          exact this
        have hqo := poApp_ok hmay
        have hqf := poApp_founder p (grE 3 (k + 1) x r)
        rw [← hq] at hqo hqf hgr
        have hset := seatC_set (rightsOf p.mem) (rightsOf q.mem) (w := x) (r := r) (by omega) (by omega) hgr.1 hgr.2
        have hql := hqo.len
        have hle : 0 + x.toNat * 1 < (seatC (rightsOf p.mem)).length := by rw [seatC_len]; omega
        clear hq
        refine RunB ?_ trivial trivial trivial trivial trivial trivial trivial trivial trivial @mbCs_wk trivial trivial
        rw [hset]
        refine AWP_loopS [4, 13, 95, 96, 97, 98, 99, 100, 101, 102, 103, 104, 105] (N := Nat × List AV) (fun ⟨w, js⟩ => [js.getD 0 .und, .int .i64 (w : Int), js.getD 1 .und, js.getD 2 .und, js.getD 3 .und, js.getD 4 .und, js.getD 5 .und, js.getD 6 .und, js.getD 7 .und, js.getD 8 .und, js.getD 9 .und, js.getD 10 .und, js.getD 11 .und]) (fun ⟨w, js⟩ => ⟨[(nx + 1, [.int .i64 q.founder, .int .i64 q.epoch, mbA q.mem]), (nx, [.int .i64 3, .int .i64 1, .int .i64 ((k : Int) + 1), .nils, .nils, .int .i64 x, .int .i64 r, .int .i64 0, .nils]), (1, seatC (rightsOf q.mem)), (0, [.int .i64 q.founder, .int .i64 q.epoch, mbA q.mem])], [], nx + 1 + 1⟩) (fun ⟨w, js⟩ => 1 ≤ w ∧ w ≤ 17) (fun ⟨w, js⟩ => 17 - w) ⟨1, [_, _, _, _, _, _, _, _, _, _, _, _]⟩ rfl rfl ?hi0 ?_
        rotate_left
        rintro ⟨w, js⟩ sl_ hs hi
        simp only [setsF, setF, Option.some.injEq] at hs
        subst hs
        case hi0 => exact ⟨by omega, by omega⟩
        obtain ⟨hw1, hw17⟩ := hi
        by_cases hwl : w < 17
        · have r1 := rights_val q (w : Int) (by omega)
          have hat := seatC_at (rightsOf q.mem) (w := (w : Int)) (by omega) (by omega)
          refine RunB ?_ trivial trivial trivial trivial trivial trivial trivial trivial trivial trivial trivial trivial
          refine ALoopQ_normal ⟨w + 1, [_, _, _, _, _, _, _, _, _, _, _, _]⟩ rfl rfl ?hi1 ?hm1
          case hi1 => exact ⟨by omega, by omega⟩
          case hm1 => simp only; omega
        · obtain rfl : w = 17 := by omega
          refine RunB ?_ trivial trivial trivial trivial trivial trivial trivial trivial trivial trivial trivial trivial
          refine ALoopW_normal ⟨k + 1, nx + 1 + 1, q, [_, _, _, _, _, _, _, _, _, _, _, _, _, _, _, _, _, _, _, _, _, _, _, _, _, _, _, _, _, _, _, _, _, _, _, _, _, _, _, _, _, _, _, _, _, _, _, _, _, _, _, _, _, _, _, _, _, _, _, _, _, _, _, _, _, _, _, _, _, _, _, _, _, _, _, _, _, _]⟩ rfl ?hs1 ?hi1 ?hm1
          case hs1 => exact ((ASub.refl _).drop (by simp only [alook]; repeat (first | rw [if_neg (by omega)]))).drop (by simp only [alook]; repeat (first | rw [if_neg (by omega)]))
          case hi1 => exact ⟨by omega, hqo, by rw [hqf]; exact hfo, by omega⟩
          case hm1 => simp only; omega
    · refine RunB ?_ trivial trivial trivial trivial trivial trivial trivial trivial trivial trivial trivial trivial
      rfl
  · obtain rfl : k = l.length := by omega
    have hrise := (MbOk_iff _).1 hp.1
    have hrd := congrArg List.length (odds_readers 16 0 p.mem hrise rfl)
    have hRd := readers_val p hp.1 (by omega)
    refine RunB ?_ trivial trivial trivial trivial trivial trivial trivial trivial trivial trivial trivial trivial
    refine AWP_loopS [14, 15, 107, 108, 109, 110, 111, 112, 113, 114, 115, 116] (N := Nat × Nat × List AV) (fun ⟨w, n, js⟩ => [.int .i64 (n : Int), .int .i64 (w : Int), js.getD 0 .und, js.getD 1 .und, js.getD 2 .und, js.getD 3 .und, js.getD 4 .und, js.getD 5 .und, js.getD 6 .und, js.getD 7 .und, js.getD 8 .und, js.getD 9 .und]) (fun ⟨w, n, js⟩ => ⟨[(1, seatC (rightsOf p.mem)), (0, [.int .i64 p.founder, .int .i64 p.epoch, mbA p.mem])], [], nx⟩) (fun ⟨w, n, js⟩ => 1 ≤ w ∧ w ≤ 17 ∧ n = (odds (rightsOf p.mem) (w - 1) 0).length) (fun ⟨w, n, js⟩ => 17 - w) ⟨1, 0, [_, _, _, _, _, _, _, _, _, _]⟩ rfl rfl ?hi0 ?_
    rotate_left
    rintro ⟨w, n, js⟩ sl_ hs hi
    simp only [setsF, setF, Option.some.injEq] at hs
    subst hs
    case hi0 => exact ⟨by omega, by omega, rfl⟩
    obtain ⟨hw1, hw17, hn⟩ := hi
    by_cases hwl : w < 17
    · have hat := seatC_at (rightsOf p.mem) (w := (w : Int)) (by omega) (by omega)
      have hrg := rightsOf_range (ms := p.mem) (w : Int) hp.1.each
      have hsn := odds_snoc (rightsOf p.mem) (w - 1) 0
      rw [show w - 1 + 1 = w by omega, show (0 : Int) + ((w - 1 : Nat) : Int) + 1 = (w : Int) by omega, ← hn] at hsn
      have hn16 := odds_le (rightsOf p.mem) (w - 1) 0
      rw [← hn] at hn16
      obtain ⟨b, hb, hb2⟩ : ∃ b : Nat, rightsOf p.mem (w : Int) % 2 = (b : Int) ∧ (odds (rightsOf p.mem) w 0).length = n + b := by
        by_cases ho : rightsOf p.mem (w : Int) % 2 = 1
        · rw [if_pos ho] at hsn; exact ⟨1, ho, hsn⟩
        · rw [if_neg ho] at hsn; exact ⟨0, by omega, hsn⟩
      refine RunB ?_ trivial trivial trivial trivial trivial trivial trivial trivial trivial trivial trivial trivial
      rw [hb]
      refine ALoopQ_normal ⟨w + 1, n + b, [_, _, _, _, _, _, _, _, _, _]⟩ rfl rfl ?hi1 ?hm1
      case hi1 => exact ⟨by omega, by omega, hb2.symm⟩
      case hm1 => simp only; omega
    · obtain rfl : w = 17 := by omega
      have hnn : (readersOf p.mem).length = n := by rw [hn]; exact hrd.symm
      refine RunB ?_ trivial trivial trivial trivial trivial trivial trivial trivial trivial trivial trivial trivial
      rfl
theorem PolicyGrants_walk (w : World) (A : Option Addr) (n c : Nat) (l : List Int) (hl : RSlice 1 (RInt .i64) w [.slice A n c] l) (A2 : Option Addr) (n2 c2 : Nat) (rs : List Int) (hr : RSlice 1 (RInt .i64) w [.slice A2 n2 c2] rs) : Calls Try.prog 13 #[.slice A n c, .slice A2 n2 c2] w (Tells w true) := (PolicyGrants_law l rs (RInts.repsA hl).2 (RInts.repsA hr).2).tells (.cons (RInts.repsA hl).1 (.one (RInts.repsA hr).1))
end Go.Proofs.Ytaffpkogcpkmjaa
