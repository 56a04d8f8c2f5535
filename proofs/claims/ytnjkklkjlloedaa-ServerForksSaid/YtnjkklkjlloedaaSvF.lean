/- The laws of layer 19: their helpers, by the abstract machine. -/
import Derived.Test.YtnjkklkjlloedaaSvE
import Derived.Test.YtnjkklkjlloedaaRfS
namespace Go.Proofs.Ytnjkklkjlloedaa
open Go.RowKit
set_option linter.unusedVariables false
set_option linter.unusedSimpArgs false
set_option maxRecDepth 10000
/-- A push's frame. -/
def pf (c : Int) (ls : List (List UInt8)) : Fr := ⟨1, c, 0, ls, []⟩
theorem pf_ok {c : Int} {ls : List (List UInt8)} (hc : 1 ≤ c ∧ c ≤ 1099511627776) (h : LksOk ls) (h1 : 1 ≤ ls.length) (h8 : ls.length ≤ 8) : FrOk (pf c ls) := by
  refine ⟨hc.1, hc.2, by simp only [pf]; omega, by simp only [pf]; omega, .inl ⟨rfl, ⟨by simp only [pf]; omega, by simp only [pf]; omega, ?_⟩, rfl, rfl⟩⟩
  rw [List.any_eq_false]
  intro b hb
  have h := h b hb
  simp only [lkBad, decide_eq_true_eq]
  omega
theorem pf_enc {c : Int} {ls : List (List UInt8)} (hc : 1 ≤ c ∧ c ≤ 1099511627776) (h : LksOk ls) (h1 : 1 ≤ ls.length) (h8 : ls.length ≤ 8) (hl : (frB (pf c ls)).length ≤ 32768) : AVal Try.prog 47 [.agg [.int .i64 1, .int .i64 c, .int .i64 0, lkA ls, .sl .none [] 0]] (okA (frB (pf c ls))) := by
  have e := encode_val (pf c ls) (by simp only [pf]; omega)
  rw [encR, if_pos (pf_ok hc h h1 h8), if_neg (by omega)] at e
  exact e
theorem strs_shut (ls : List (List UInt8)) : AV.shutL (ls.map .str) = true := by
  induction ls with
  | nil => simp [AV.shutL]
  | cons x r ih => simp only [List.map_cons, AV.shutL, AV.shut, ih, Bool.and_self]
/-- Strings, as a row. -/
abbrev stA (ls : List (List UInt8)) : AV := .sl .none (ls.map .str) ls.length
theorem push19_val (c : Int) (ls : List (List UInt8)) (hc : 1 ≤ c ∧ c ≤ 1099511627776) (h : LksOk ls) (h1 : 1 ≤ ls.length) (h8 : ls.length ≤ 8) (hl : (frB (pf c ls)).length ≤ 32768) : AVal Try.prog 24 [.int .i64 c, stA ls] (bsA (frB (pf c ls))) := by
  refine AVal.mkw (by simp only [AV.shutL, AV.shut, strs_shut, Bool.and_self]) (bsA_shut _) ?_
  refine ACalls_body Try.func24 rfl rfl ?_
  simp only [Try.ntmps24, List.length_cons, List.length_nil, Nat.reduceAdd, Nat.reduceSub, List.replicate_succ, List.replicate_zero, List.cons_append, List.nil_append]
  have e1 := pf_enc hc h h1 h8 hl
  refine Run ?_ trivial trivial trivial trivial trivial trivial trivial trivial trivial trivial trivial trivial
  refine AWP_adO (nx := 2) 0 3 1 rfl rfl rfl rfl rfl ?_
  refine AWP_loopS [7, 12, 13, 14, 15, 16, 17, 18, 19, 20, 21, 22, 23, 24, 25] (N := Nat × Nat × List AV × List AV) (fun ⟨k, n, cs, js⟩ => [js.getD 0 .und, stA ls, .int .i64 (ls.length : Int), .int .i64 (k : Int), js.getD 1 .und, js.getD 2 .und, js.getD 3 .und, js.getD 4 .und, js.getD 5 .und, js.getD 6 .und, js.getD 7 .und, js.getD 8 .und, js.getD 9 .und, js.getD 10 .und, js.getD 11 .und]) (fun ⟨k, n, cs, js⟩ => ⟨[(0, [.int .i64 1, .int .i64 c, .int .i64 0, .sl (.tok 1 n 1) cs n, .nils])], [(1, n)], 2⟩) (fun ⟨k, n, cs, js⟩ => k ≤ ls.length ∧ cs = (ls.take k).map bsA ∧ n = k) (fun ⟨k, n, cs, js⟩ => ls.length - k) ⟨0, 0, [], [_, _, _, _, _, _, _, _, _, _, _, _]⟩ rfl rfl ?hi0 ?_
  rotate_left
  rintro ⟨k, n, cs, js⟩ sl_ hs hi
  simp only [setsF, setF, Option.some.injEq] at hs
  subst hs
  case hi0 => exact ⟨by omega, by simp, rfl⟩
  obtain ⟨hk, hx, hn⟩ := hi
  by_cases hlt : k < ls.length
  · have hel : ls[k]? = some ls[k] := List.getElem?_eq_getElem hlt
    have hc : (ls.map AV.str)[k]? = some (.str ls[k]) := by rw [List.getElem?_map, hel]; rfl
    have hsz := h ls[k] (List.getElem_mem hlt)
    refine Run ?_ trivial trivial trivial trivial trivial trivial trivial trivial trivial trivial trivial trivial
    refine ALoopQ_normal ⟨k + 1, _, _, [_, _, _, _, _, _, _, _, _, _, _, _]⟩ rfl rfl ?hi1 ?hm1
    case hi1 => exact ⟨by omega, by rw [List.take_add_one, hel, List.map_append, hx]; rfl, by omega⟩
    case hm1 => simp only; omega
  · obtain rfl : k = ls.length := by omega
    rw [List.take_length] at hx
    subst hx hn
    refine Run ?_ trivial trivial trivial trivial trivial trivial trivial trivial trivial trivial trivial trivial
    rw [aone]
    unfold AV.wk
    rw [AV.wkL_bvA]
theorem same19_val (a b : List (List UInt8)) (hm : a.length ≤ 1000000) : AVal Try.prog 22 [lkA a, lkA b] (.bool (a == b)) := by
  refine AVal.mkw (by simp only [AV.shutL, AV.shut, bsAs_shut, Bool.and_self]) (by simp [AV.shut]) ?_
  refine ACalls_body Try.func22 rfl rfl ?_
  simp only [Try.ntmps22, List.length_cons, List.length_nil, Nat.reduceAdd, Nat.reduceSub, List.replicate_succ, List.replicate_zero, List.cons_append, List.nil_append]
  have e1 : AVal Try.prog 54 [.agg [.int .i64 0, .int .i64 0, .int .i64 0, lkA a, .sl .none [] 0], .agg [.int .i64 0, .int .i64 0, .int .i64 0, lkA b, .sl .none [] 0]] (.bool (a == b)) := by
    have h := refSame_val ⟨0, 0, 0, a, []⟩ ⟨0, 0, 0, b, []⟩ hm
    rw [show (⟨0, 0, 0, a, []⟩ : Fr).same ⟨0, 0, 0, b, []⟩ = (a == b) by rw [Bool.eq_iff_iff, Fr.same_iff]; simp] at h
    exact h
  refine Run ?_ trivial trivial trivial trivial trivial trivial trivial trivial trivial trivial trivial trivial
  rfl
/-- Links that can be gone through. -/
def smLk (ls : List (List UInt8)) : Prop := ls.length ≤ 10 ∧ ∀ b ∈ ls, b.length ≤ 4200
instance (ls : List (List UInt8)) : Decidable (smLk ls) := by unfold smLk; infer_instance
theorem small19_val (ls : List (List UInt8)) (hm : ls.length ≤ 9223372036854775807) : AVal Try.prog 17 [.sl .none [.int .i64 0, .int .i64 0, .int .i64 1, .int .i64 1, .int .i64 0, lkA ls, .sl .none [] 0, .sl .none [] 0] 1, .int .i64 1] (.bool (decide (smLk ls))) := by
  refine AVal.mkw (by simp only [AV.shutL, AV.shut, bsAs_shut, Bool.and_self]) (by simp [AV.shut]) ?_
  refine ACalls_body Try.func17 rfl rfl ?_
  simp only [Try.ntmps17, List.length_cons, List.length_nil, Nat.reduceAdd, Nat.reduceSub, List.replicate_succ, List.replicate_zero, List.cons_append, List.nil_append]
  by_cases g1 : 10 < ls.length
  · rw [decide_eq_false (fun h : smLk ls => by have := h.1; omega)]
    refine Run ?_ trivial trivial trivial trivial trivial trivial trivial trivial trivial trivial trivial trivial
    with_reducible refine AWP_loop_n 2 ?_
    refine Run ?_ trivial trivial trivial trivial trivial trivial trivial trivial trivial trivial trivial trivial
    rfl
  refine Run ?_ trivial trivial trivial trivial trivial trivial trivial trivial trivial trivial trivial trivial
  with_reducible refine AWP_loop_n 2 ?_
  refine Run ?_ trivial trivial trivial trivial trivial trivial trivial trivial trivial trivial trivial trivial
  refine AWP_loopS [4, 8, 28, 29, 30, 31, 32, 33, 34, 35, 36, 37] (N := Nat × List AV) (fun ⟨k, js⟩ => [js.getD 0 .und, js.getD 1 .und, lkA ls, .int .i64 (ls.length : Int), .int .i64 (k : Int), js.getD 2 .und, js.getD 3 .und, js.getD 4 .und, js.getD 5 .und, js.getD 6 .und, js.getD 7 .und, js.getD 8 .und]) (fun ⟨k, js⟩ => ⟨[(0, [.int .i64 0, .int .i64 0, .int .i64 1, .int .i64 1, .int .i64 0, lkA ls, .sl .none [] 0, .sl .none [] 0])], [], 1⟩) (fun ⟨k, js⟩ => k ≤ ls.length ∧ ∀ b ∈ ls.take k, b.length ≤ 4200) (fun ⟨k, js⟩ => ls.length - k) ⟨0, [_, _, _, _, _, _, _, _, _]⟩ rfl rfl ?hi0 ?_
  rotate_left
  rintro ⟨k, js⟩ sl_ hs hi
  simp only [setsF, setF, Option.some.injEq] at hs
  subst hs
  case hi0 => exact ⟨by omega, fun b hb => by simp at hb⟩
  obtain ⟨hk, hx⟩ := hi
  by_cases hlt : k < ls.length
  · have hel : ls[k]? = some ls[k] := List.getElem?_eq_getElem hlt
    have hc : (ls.map bsA)[k]? = some (bsA ls[k]) := by rw [List.getElem?_map, hel]; rfl
    by_cases g2 : 4200 < ls[k].length
    · rw [decide_eq_false (fun h : smLk ls => by have := h.2 ls[k] (List.getElem_mem hlt); omega)]
      refine Run ?_ trivial trivial trivial trivial trivial trivial trivial trivial trivial trivial trivial trivial
      rfl
    · refine Run ?_ trivial trivial trivial trivial trivial trivial trivial trivial trivial trivial trivial trivial
      refine ALoopQ_normal ⟨k + 1, [_, _, _, _, _, _, _, _, _]⟩ rfl rfl ?hi1 ?hm1
      case hi1 => exact ⟨by omega, take_succ_all hel hx (by omega)⟩
      case hm1 => simp only; omega
  · obtain rfl : k = ls.length := by omega
    rw [List.take_length] at hx
    rw [decide_eq_true (show smLk ls from ⟨by omega, hx⟩)]
    refine Run ?_ trivial trivial trivial trivial trivial trivial trivial trivial trivial trivial trivial trivial
    rfl
theorem push_fact (L : Lg) (hL : LgOk L) (br : Int) (h0 : 0 ≤ br) (h1 : br < 2) (c : Int) (ls : List (List UInt8)) (hc : 1 ≤ c ∧ c ≤ 1099511627776) (h : LksOk ls) (hl1 : 1 ≤ ls.length) (h8 : ls.length ≤ 8) (hl : (frB (pf c ls)).length ≤ 32768) (s m : Int) : ASys Try.prog 19 [.ptr s 0, .int .i64 br, bsA (frB (pf c ls))] (erA (pushE L (br, c) ls)) [(s, [.map m], [.map m])] [(m, mpT L, mpT (pushL L (br, c) ls))] := by
  have e := handle_push L hL br h0 h1 (pf c ls) (pf_ok hc h hl1 h8) rfl s m
  rw [if_neg (by omega), if_neg (by omega)] at e
  exact e
/-- A pull's frame. -/
def qf (c : Int) (k : Nat) : Fr := ⟨2, c, k, [], []⟩
theorem qf_ok {c : Int} {k : Nat} (hc : 1 ≤ c ∧ c ≤ 1099511627776) (hk : k ≤ 64) : FrOk (qf c k) := ⟨hc.1, hc.2, by simp only [qf]; omega, by simp only [qf]; omega, .inr (.inl ⟨rfl, rfl, rfl⟩)⟩
theorem qf_bytes {c : Int} {k : Nat} (hc : 1 ≤ c ∧ c ≤ 1099511627776) (hk : k ≤ 64) : AVal Try.prog 20 [.agg [.int .i64 2, .int .i64 c, .int .i64 (k : Int), .sl .none [] 0, .sl .none [] 0]] (bsA (frB (qf c k))) := refBytes_val (qf c k) (qf_ok hc hk)
theorem pull_fact (L : Lg) (hL : LgOk L) (br : Int) (h0 : 0 ≤ br) (h1 : br < 2) (c : Int) (k : Nat) (hc : 1 ≤ c ∧ c ≤ 1099511627776) (hk : k ≤ 64) (s m : Int) : ASys Try.prog 19 [.ptr s 0, .int .i64 br, bsA (frB (qf c k))] (pullR c (getL L (br, c)) k) [(s, [.map m], [.map m])] [(m, mpT L, mpT L)] :=
  handle_pull L hL br h0 h1 (qf c k) (qf_ok hc hk) rfl s m
theorem anchor19_val : AVal Try.prog 15 [] (.bool true) := by
  refine AVal.mk rfl rfl ?_
  refine ACalls_body Try.func15 rfl rfl ?_
  simp only [Try.ntmps15, List.length_cons, List.length_nil, Nat.reduceAdd, Nat.reduceSub, List.replicate_succ, List.replicate_zero, List.cons_append, List.nil_append]
  have k1 : LksOk [[97], [98]] := by intro b hb; simp at hb; rcases hb with rfl | rfl <;> decide
  have k2 : LksOk [[98], [99]] := by intro b hb; simp at hb; rcases hb with rfl | rfl <;> decide
  have p1 : AVal Try.prog 24 [.int .i64 1, .sl .none [.str [97], .str [98]] 2] _ := push19_val 1 [[97], [98]] (by omega) k1 (by decide) (by decide) (by decide +kernel)
  have p2 : AVal Try.prog 24 [.int .i64 1, .sl .none [.str [98], .str [99]] 2] _ := push19_val 1 [[98], [99]] (by omega) k2 (by decide) (by decide) (by decide +kernel)
  have ok1 : LgOk [((0, 1), [[97], [98]])] := LgOk.push LgOk.nil (0, 1) [[97], [98]] k1 (by decide)
  have ok2 : LgOk [((0, 1), [[97], [98], [99]])] := LgOk.push ok1 (0, 1) [[98], [99]] k2 (by decide)
  have q1 : ASys Try.prog 19 [.ptr 1 0, .int .i64 0, bsA (frB (pf 1 [[97], [98]]))] (erA 0) [(1, [.map 0], [.map 0])] [(0, mpT [], mpT [((0, 1), [[97], [98]])])] := push_fact [] LgOk.nil 0 (by omega) (by omega) 1 [[97], [98]] (by omega) k1 (by decide) (by decide) (by decide +kernel) 1 0
  have q2 : ASys Try.prog 19 [.ptr 1 0, .int .i64 0, bsA (frB (pf 1 [[98], [99]]))] (erA 0) [(1, [.map 0], [.map 0])] [(0, mpT [((0, 1), [[97], [98]])], mpT [((0, 1), [[97], [98], [99]])])] := push_fact _ ok1 0 (by omega) (by omega) 1 [[98], [99]] (by omega) k2 (by decide) (by decide) (by decide +kernel) 1 0
  have q3 : ASys Try.prog 19 [.ptr 1 0, .int .i64 0, bsA (frB (qf 1 1))] (pullR 1 [[97], [98], [99]] 1) [(1, [.map 0], [.map 0])] [(0, mpT [((0, 1), [[97], [98], [99]])], mpT [((0, 1), [[97], [98], [99]])])] := pull_fact _ ok2 0 (by omega) (by omega) 1 1 (by omega) (by omega) 1 0
  have hp : pullR 1 [[97], [98], [99]] 1 = okA (frB (bt 1 [[97], [98], [99]] 1 2)) := by
    rw [pullR, if_neg (by decide)]
    have h2 : pullN 1 [[97], [98], [99]] 1 2 = 2 := by rw [pullN, if_neg (by decide +kernel)]
    show okA (frB (bt 1 [[97], [98], [99]] 1 (pullN 1 [[97], [98], [99]] 1 2))) = _
    rw [h2]
  rw [hp] at q3
  have q4 : AVal Try.prog 23 [bsA (frB (bt 1 [[97], [98], [99]] 1 2))] (.tup [.agg [.int .i64 3, .int .i64 1, .int .i64 1, lkA [[98], [99]], .sl .none [] 0], .int .i64 0]) := by
    have e := dec_frB (bt_ok (c := 1) (lg := [[97], [98], [99]]) (k := 1) (n := 2) (by omega) (by omega) (ok2.links (0, 1)) (by omega))
    rw [if_neg (by decide +kernel)] at e
    exact e
  have q5 := log_sys _ ok2 0 1 ⟨by omega, by omega⟩ ⟨by omega, by omega⟩ 1 0
  have q6 : AVal Try.prog 20 [.agg [.int .i64 2, .int .i64 1, .int .i64 1, .sl .none [] 0, .sl .none [] 0]] (bsA (frB (qf 1 1))) := qf_bytes (c := 1) (k := 1) (by omega) (by omega)
  rw [show getL [((0, 1), [[97], [98], [99]])] (0, 1) = [[97], [98], [99]] from rfl] at q5
  clear k1 k2 ok1 ok2 hp
  generalize frB (pf 1 [[97], [98]]) = B1 at p1 q1
  generalize frB (pf 1 [[98], [99]]) = B2 at p2 q2
  generalize frB (qf 1 1) = B3 at q3 q6
  generalize frB (bt 1 [[97], [98], [99]] 1 2) = B4 at q3 q4
  refine Run ?_ trivial trivial (⟨Try.func16, rfl, rfl⟩ : Inl Try.prog 16 _ _ _) trivial trivial trivial trivial trivial trivial trivial trivial trivial
  rfl
end Go.Proofs.Ytnjkklkjlloedaa
