/- Law 10: the reference policy, by the abstract machine. -/
import Derived.Test.YtaffpkogcpkmjaaPoW3
import Derived.Test.YtaffpkogcpkmjaaRfE2
namespace Go.Proofs.Ytaffpkogcpkmjaa
open Go.RowKit
set_option linter.unusedVariables false
set_option linter.unusedSimpArgs false
set_option maxRecDepth 10000
theorem shutL_ints : ∀ (l : List Nat) (g : Int → Int), AV.shutL (l.map fun w => AV.int .i64 (g (w : Nat))) = true
  | [], _ => rfl
  | x :: l, g => by simp only [List.map_cons, AV.shutL, AV.shut, Bool.true_and]; exact shutL_ints l g
theorem wkL_ints : ∀ (l : List Nat) (g : Int → Int), AV.wkL (l.map fun w => AV.int .i64 (g (w : Nat))) = l.map fun w => AV.int .i64 (g (w : Nat))
  | [], _ => rfl
  | x :: l, g => by simp only [List.map_cons, AV.wkL, AV.wk]; rw [wkL_ints l g]
theorem seatC_wk (g : Int → Int) : AV.wkL (seatC g) = seatC g := wkL_ints _ _
def rpC (f ep : Int) (g : Int → Int) : List AV := .int .i64 f :: .int .i64 ep :: seatC g
theorem rpC_shut (f ep : Int) (g : Int → Int) : AV.shutL (rpC f ep g) = true := by unfold rpC; simp only [AV.shutL, AV.shut, Bool.true_and]; exact shutL_ints _ _
theorem rpC_wk (f ep : Int) (g : Int → Int) : AV.wkL (rpC f ep g) = rpC f ep g := by unfold rpC; simp only [AV.wkL, AV.wk, seatC_wk]
theorem rpC_len (f ep : Int) (g : Int → Int) : (rpC f ep g).length = 19 := by unfold rpC; simp [seatC_len]
theorem rpC_at (f ep : Int) (g : Int → Int) {w : Int} (h0 : 0 ≤ w) (h1 : w < 17) : (rpC f ep g)[0 + 2 + w.toNat * 1]? = some (.int .i64 (g w)) := by
  have := seatC_at g h0 h1
  rw [Nat.zero_add] at this
  rw [Nat.zero_add, Nat.add_comm]
  exact this
theorem rpC_set (f ep : Int) (g g' : Int → Int) {w r : Int} (h0 : 0 ≤ w) (h1 : w < 17) (hw : g' w = r) (hn : ∀ v, v ≠ w → g' v = g v) : (rpC f ep g).set (0 + 2 + w.toNat * 1) (.int .i64 r) = rpC f ep g' := by
  have := seatC_set g g' h0 h1 hw hn
  rw [Nat.zero_add] at this
  rw [Nat.zero_add, Nat.add_comm]
  unfold rpC
  rw [← this]
  rfl
set_option maxHeartbeats 4000000 in
theorem same10_val (p : Po) (hp : PoOk p) : AVal Try.prog 29 [poA p, .agg (rpC p.founder p.epoch (rightsOf p.mem))] (.bool true) := by
  refine AVal.mkw (by simp only [AV.shutL, AV.shut, rpC_shut, mbCs_shut, Bool.and_self]) (by simp [AV.shut]) ?_
  refine ACalls_body Try.func29 rfl rfl ?_
  simp only [Try.ntmps29, List.length_cons, List.length_nil, Nat.reduceAdd, Nat.reduceSub, List.replicate_succ, List.replicate_zero, List.cons_append, List.nil_append]
  have hpl := hp.len
  have hR := poright_val p (by omega)
  rw [decide_eq_true hp] at hR
  have h0 : (rpC p.founder p.epoch (rightsOf p.mem))[0 + 0]? = some (.int .i64 p.founder) := rfl
  have h1 : (rpC p.founder p.epoch (rightsOf p.mem))[0 + 1]? = some (.int .i64 p.epoch) := rfl
  refine RunB ?_ trivial trivial trivial trivial trivial trivial trivial trivial trivial trivial trivial trivial
  refine AWP_loopS [4, 5, 23, 24, 25, 26, 27, 28, 29, 30, 31, 32, 33, 34] (N := Nat × List AV) (fun ⟨w, js⟩ => [js.getD 0 .und, .int .i64 (w : Int), js.getD 1 .und, js.getD 2 .und, js.getD 3 .und, js.getD 4 .und, js.getD 5 .und, js.getD 6 .und, js.getD 7 .und, js.getD 8 .und, js.getD 9 .und, js.getD 10 .und, js.getD 11 .und, js.getD 12 .und]) (fun ⟨w, js⟩ => ⟨[(1, rpC p.founder p.epoch (rightsOf p.mem)), (0, poC p)], [], 2⟩) (fun ⟨w, js⟩ => 1 ≤ w ∧ w ≤ 17) (fun ⟨w, js⟩ => 17 - w) ⟨1, [_, _, _, _, _, _, _, _, _, _, _, _, _]⟩ rfl rfl ?hi0 ?_
  rotate_left
  rintro ⟨w, js⟩ sl_ hs hi
  simp only [setsF, setF, Option.some.injEq] at hs
  subst hs
  case hi0 => exact ⟨by omega, by omega⟩
  obtain ⟨hw1, hw17⟩ := hi
  by_cases hwl : w < 17
  · have r1 := rights_val p (w : Int) (by omega)
    have hat := rpC_at p.founder p.epoch (rightsOf p.mem) (w := (w : Int)) (by omega) (by omega)
    refine RunB ?_ trivial trivial trivial trivial trivial trivial trivial trivial trivial trivial trivial trivial
    refine ALoopQ_normal ⟨w + 1, [_, _, _, _, _, _, _, _, _, _, _, _, _]⟩ rfl rfl ?hi1 ?hm1
    case hi1 => exact ⟨by omega, by omega⟩
    case hm1 => simp only; omega
  · obtain rfl : w = 17 := by omega
    refine RunB ?_ trivial trivial trivial trivial trivial trivial trivial trivial trivial trivial trivial trivial
    rfl
theorem refFirst10_val (f : Int) (h : 1 ≤ f ∧ f ≤ 16) : AVal Try.prog 28 [.int .i64 f] (.agg (rpC f 0 (rightsOf (p1 f).mem))) := by
  refine AVal.mkw (by simp [AV.shutL, AV.shut]) (by unfold AV.shut; exact rpC_shut _ _ _) ?_
  refine ACalls_body Try.func28 rfl rfl ?_
  simp only [Try.ntmps28, List.length_cons, List.length_nil, Nat.reduceAdd, Nat.reduceSub, List.replicate_succ, List.replicate_zero, List.cons_append, List.nil_append]
  have hset : ([.int .i64 f, .int .i64 0, .int .i64 0, .int .i64 0, .int .i64 0, .int .i64 0, .int .i64 0, .int .i64 0, .int .i64 0, .int .i64 0, .int .i64 0, .int .i64 0, .int .i64 0, .int .i64 0, .int .i64 0, .int .i64 0, .int .i64 0, .int .i64 0, .int .i64 0] : List AV).set (0 + 2 + f.toNat * 1) (.int .i64 7) = rpC f 0 (rightsOf (p1 f).mem) := rpC_set f 0 (fun _ => 0) (rightsOf (p1 f).mem) (w := f) (r := 7) (by omega) (by omega) (by simp [p1, rightsOf]) (fun v hv => by simp only [p1, rightsOf]; rw [if_neg (fun h => hv h.symm)])
  refine RunB ?_ trivial trivial trivial trivial trivial trivial trivial trivial trivial trivial trivial trivial
  rw [hset]
  refine RunB ?_ trivial trivial trivial trivial trivial trivial trivial trivial trivial trivial trivial trivial
  simp only [aone, AV.wk, rpC_wk]
set_option maxHeartbeats 4000000 in
theorem refApply10_val (p : Po) (e : En) (hp : PoOk p) (he : EnOk e) : AVal Try.prog 33 [.agg (rpC p.founder p.epoch (rightsOf p.mem)), enA e] (.agg (rpC (poApp p e).founder (poApp p e).epoch (rightsOf (poApp p e).mem))) := by
  refine AVal.mkw (by simp only [AV.shutL, AV.shut, rpC_shut, enA_shut, Bool.and_self]; first | done | simp [shutL_bvA, wpCs_shut]) (by unfold AV.shut; exact rpC_shut _ _ _) ?_
  refine ACalls_body Try.func33 rfl rfl ?_
  simp only [Try.ntmps33, List.length_cons, List.length_nil, Nat.reduceAdd, Nat.reduceSub, List.replicate_succ, List.replicate_zero, List.cons_append, List.nil_append]
  have h3 := he.2.2.2.2.2.2.2.2.1
  have h4 := he.2.2.2.2.2.2.2.2.2.1
  have hgr := fun v : Int => poApp_rights (e := e) hp v
  rw [poApp_founder, poApp_epoch]
  have hL := rpC_len p.founder p.epoch (rightsOf p.mem)
  by_cases k3 : e.kind = 3
  · have g := h3 k3
    rw [if_neg (by omega)]
    have hset := rpC_set p.founder p.epoch (rightsOf p.mem) (rightsOf (poApp p e).mem) (w := e.who) (r := e.rights) (by omega) (by omega) (by rw [hgr]; unfold gApp; rw [if_pos ⟨k3, rfl⟩]) (fun v hv => by rw [hgr]; unfold gApp; rw [if_neg (fun h => hv h.2), if_neg (fun h => hv h.2)])
    have hle : 0 + 2 + e.who.toNat * 1 < (rpC p.founder p.epoch (rightsOf p.mem)).length := by rw [hL]; omega
    refine RunB ?_ trivial trivial trivial trivial trivial trivial trivial trivial trivial trivial trivial trivial
    rw [hset]
    refine RunB ?_ trivial trivial trivial trivial trivial trivial trivial trivial trivial trivial trivial trivial
    simp only [aone, AV.wk, rpC_wk]
  by_cases k4 : e.kind = 4
  · have g := h4 k4
    rw [if_neg (by omega)]
    have hset := rpC_set p.founder p.epoch (rightsOf p.mem) (rightsOf (poApp p e).mem) (w := e.who) (r := 0) (by omega) (by omega) (by rw [hgr]; unfold gApp; rw [if_neg (by omega), if_pos ⟨k4, rfl⟩]) (fun v hv => by rw [hgr]; unfold gApp; rw [if_neg (fun h => hv h.2), if_neg (fun h => hv h.2)])
    have hle : 0 + 2 + e.who.toNat * 1 < (rpC p.founder p.epoch (rightsOf p.mem)).length := by rw [hL]; omega
    refine RunB ?_ trivial trivial trivial trivial trivial trivial trivial trivial trivial trivial trivial trivial
    rw [hset]
    refine RunB ?_ trivial trivial trivial trivial trivial trivial trivial trivial trivial trivial trivial trivial
    simp only [aone, AV.wk, rpC_wk]
  have hsame : rightsOf (poApp p e).mem = rightsOf p.mem := funext fun v => by rw [hgr]; unfold gApp; rw [if_neg (fun h => k3 h.1), if_neg (fun h => k4 h.1)]
  rw [hsame]
  by_cases k5 : e.kind = 5
  · rw [if_pos k5]
    have hset : (rpC p.founder p.epoch (rightsOf p.mem)).set (0 + 1) (.int .i64 e.epoch) = rpC p.founder e.epoch (rightsOf p.mem) := rfl
    have hle : 0 + 1 < (rpC p.founder p.epoch (rightsOf p.mem)).length := by rw [hL]; omega
    refine RunB ?_ trivial trivial trivial trivial trivial trivial trivial trivial trivial trivial trivial trivial
    simp only [aone, AV.wk]
    exact congrArg AV.agg (rpC_wk p.founder e.epoch (rightsOf p.mem))
  · rw [if_neg k5]
    refine RunB ?_ trivial trivial trivial trivial trivial trivial trivial trivial trivial trivial trivial trivial
    simp only [aone, AV.wk, rpC_wk]
theorem odds_s (g : Int → Int) (k : Nat) (lo : Int) : odds g (k + 1) lo = (if g (lo + 1) % 2 = 1 then [lo + 1] else []) ++ odds g k (lo + 1) := rfl
theorem odds_app (g : Int → Int) : ∀ (a b : Nat) (lo : Int), odds g (a + b) lo = odds g a lo ++ odds g b (lo + a)
  | 0, b, lo => by simp [odds]
  | a + 1, b, lo => by
    rw [show a + 1 + b = a + b + 1 by omega]
    rw [odds_s, odds_s, odds_app g a b (lo + 1), List.append_assoc, show lo + 1 + (a : Int) = lo + ((a + 1 : Nat) : Int) by omega]
set_option maxHeartbeats 4000000 in
theorem refReaders10_val (f ep : Int) (g : Int → Int) (ws : List Wp) (hg : ∀ w, 0 ≤ g w) (hm : ws.length ≤ 1000) : AVal Try.prog 63 [.agg (rpC f ep g), wrA ws] (.bool (decide (ws.map Wp.who = odds g 16 0))) := by
  refine AVal.mkw (by simp only [AV.shutL, AV.shut, rpC_shut, wpCs_shut, Bool.and_self]) (by simp [AV.shut]) ?_
  refine ACalls_body Try.func63 rfl rfl ?_
  simp only [Try.ntmps63, List.length_cons, List.length_nil, Nat.reduceAdd, Nat.reduceSub, List.replicate_succ, List.replicate_zero, List.cons_append, List.nil_append]
  refine RunB ?_ trivial trivial trivial trivial trivial trivial trivial trivial trivial trivial trivial trivial
  refine AWP_loopS [4, 5, 6, 7, 8, 9, 10, 11, 12, 13, 14, 15, 16, 17, 18, 19, 20, 21, 22, 23, 24, 25, 26, 27, 28, 29, 30, 31] (N := Nat × Nat × List AV) (fun ⟨w, n, js⟩ => [js.getD 0 .und, .int .i64 (n : Int), .int .i64 (w : Int), js.getD 1 .und, js.getD 2 .und, js.getD 3 .und, js.getD 4 .und, js.getD 5 .und, js.getD 6 .und, js.getD 7 .und, js.getD 8 .und, js.getD 9 .und, js.getD 10 .und, js.getD 11 .und, js.getD 12 .und, js.getD 13 .und, js.getD 14 .und, js.getD 15 .und, js.getD 16 .und, js.getD 17 .und, js.getD 18 .und, js.getD 19 .und, js.getD 20 .und, js.getD 21 .und, js.getD 22 .und, js.getD 23 .und, js.getD 24 .und, js.getD 25 .und]) (fun ⟨w, n, js⟩ => ⟨[(0, rpC f ep g)], [], 1⟩) (fun ⟨w, n, js⟩ => 1 ≤ w ∧ w ≤ 17 ∧ n ≤ ws.length ∧ (ws.take n).map Wp.who = odds g (w - 1) 0) (fun ⟨w, n, js⟩ => 17 - w) ⟨1, 0, [_, _, _, _, _, _, _, _, _, _, _, _, _, _, _, _, _, _, _, _, _, _, _, _, _, _]⟩ rfl rfl ?hi0 ?_
  rotate_left
  rintro ⟨w, n, js⟩ sl_ hs hi
  simp only [setsF, setF, Option.some.injEq] at hs
  subst hs
  case hi0 => exact ⟨by omega, by omega, by omega, rfl⟩
  obtain ⟨hw1, hw17, hn, hpre⟩ := hi
  by_cases hwl : w < 17
  · have hat := rpC_at f ep g (w := (w : Int)) (by omega) (by omega)
    have hg0 := hg (w : Int)
    have hsn := odds_app g (w - 1) 1 0
    rw [show w - 1 + 1 = w by omega, show (0 : Int) + ((w - 1 : Nat) : Int) = (w : Int) - 1 by omega] at hsn
    have h1 : odds g 1 ((w : Int) - 1) = if g w % 2 = 1 then [(w : Int)] else [] := by
      unfold odds odds
      rw [show (w : Int) - 1 + 1 = w by omega, List.append_nil]
    rw [h1] at hsn
    by_cases ho : g (w : Int) % 2 = 1
    · rw [if_pos ho] at hsn
      have hall := odds_app g w (16 - w) 0
      rw [show w + (16 - w) = 16 by omega, hsn] at hall
      have hnl : n = (odds g (w - 1) 0).length := by rw [← hpre, List.length_map, List.length_take]; omega
      have hnth : (odds g 16 0)[n]? = some (w : Int) := by
        rw [hall, List.append_assoc, List.getElem?_append_right (by omega), hnl, Nat.sub_self]
        rfl
      by_cases hlt : n < ws.length
      · have hel : ws[n]? = some ws[n] := List.getElem?_eq_getElem hlt
        have hcw := wpCs_who hel
        have hcw0 : (wpCs ws)[n * 2 + 0]? = some (.int .i64 ws[n].who) := hcw
        have htk : (ws.take (n + 1)).map Wp.who = (ws.take n).map Wp.who ++ [ws[n].who] := by
          rw [List.take_add_one, hel]; simp only [Option.toList_some, List.map_append, List.map_cons, List.map_nil]
        generalize hx : ws[n] = x at *
        by_cases hxw : x.who = (w : Int)
        · refine RunB ?_ trivial trivial trivial trivial trivial trivial trivial trivial trivial trivial trivial trivial
          refine ALoopQ_normal ⟨w + 1, n + 1, [_, _, _, _, _, _, _, _, _, _, _, _, _, _, _, _, _, _, _, _, _, _, _, _, _, _]⟩ rfl rfl ?hi1 ?hm1
          case hi1 => exact ⟨by omega, by omega, by omega, by rw [htk, hpre, hxw, Nat.add_sub_cancel, hsn]⟩
          case hm1 => simp only; omega
        · rw [decide_eq_false (fun h => by
            rw [← h, List.getElem?_map, hel] at hnth
            simp at hnth
            exact hxw hnth)]
          refine RunB ?_ trivial trivial trivial trivial trivial trivial trivial trivial trivial trivial trivial trivial
          rfl
      · rw [decide_eq_false (fun h => by
          rw [← h, List.getElem?_eq_none (by rw [List.length_map]; omega)] at hnth
          cases hnth)]
        refine RunB ?_ trivial trivial trivial trivial trivial trivial trivial trivial trivial trivial trivial trivial
        rfl
    · rw [if_neg ho, List.append_nil] at hsn
      have he2 : g (w : Int) % 2 = 0 := by omega
      refine RunB ?_ trivial trivial trivial trivial trivial trivial trivial trivial trivial trivial trivial trivial
      refine ALoopQ_normal ⟨w + 1, n, [_, _, _, _, _, _, _, _, _, _, _, _, _, _, _, _, _, _, _, _, _, _, _, _, _, _]⟩ rfl rfl ?hi1 ?hm1
      case hi1 => exact ⟨by omega, by omega, by omega, by rw [hpre, Nat.add_sub_cancel, hsn]⟩
      case hm1 => simp only; omega
  · obtain rfl : w = 17 := by omega
    have hpre : (ws.take n).map Wp.who = odds g 16 0 := hpre
    by_cases hnl : n = ws.length
    · subst hnl
      rw [List.take_length] at hpre
      rw [decide_eq_true hpre]
      refine RunB ?_ trivial trivial trivial trivial trivial trivial trivial trivial trivial trivial trivial trivial
      rfl
    · rw [decide_eq_false (fun h => by
        have h1 := congrArg List.length hpre
        rw [← h, List.length_map, List.length_map, List.length_take] at h1
        omega)]
      refine RunB ?_ trivial trivial trivial trivial trivial trivial trivial trivial trivial trivial trivial trivial
      rfl
end Go.Proofs.Ytaffpkogcpkmjaa
