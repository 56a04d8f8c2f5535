/- entry: bare, Same, Right, by the abstract machine. -/
import Derived.Test.YtnjkklkjlloedaaEnA
namespace Go.Proofs.Ytnjkklkjlloedaa
open Go.RowKit
set_option linter.unusedVariables false
set_option linter.unusedSimpArgs false
set_option maxRecDepth 10000
theorem equal_val (a b : List UInt8) (hm : a.length ≤ 1000000000) : AVal Try.prog 73 [bsA a, bsA b] (.bool (a == b)) := by
  refine AVal.mkw (by simp [AV.shutL, bsA_shut]) (by simp [AV.shut]) ?_
  refine ACalls_body Try.func73 rfl rfl ?_
  simp only [Try.ntmps73, List.length_cons, List.length_nil, Nat.reduceAdd, Nat.reduceSub, List.replicate_succ, List.replicate_zero, List.cons_append, List.nil_append]
  by_cases hl : (a.length : Int) = b.length
  · refine Run ?_ trivial trivial trivial trivial trivial trivial trivial trivial trivial trivial trivial trivial
    refine AWP_loopS [4, 5, 12, 13, 14, 15, 16, 17, 18, 19, 20, 21, 22, 23, 24, 25] (N := Nat × List AV) (fun ⟨k, js⟩ => [js.getD 0 .und, js.getD 1 .und, .int .i64 (a.length : Int), .int .i64 (k : Int), js.getD 2 .und, js.getD 3 .und, js.getD 4 .und, js.getD 5 .und, js.getD 6 .und, js.getD 7 .und, js.getD 8 .und, js.getD 9 .und, js.getD 10 .und, js.getD 11 .und, js.getD 12 .und, js.getD 13 .und]) (fun ⟨k, js⟩ => ⟨[], [], 0⟩) (fun ⟨k, js⟩ => k ≤ a.length ∧ a.take k = b.take k) (fun ⟨k, js⟩ => a.length - k) ⟨0, [_, _, _, _, _, _, _, _, _, _, _, _, _, _]⟩ rfl rfl ?hi0 ?_
    rotate_left
    rintro ⟨k, js⟩ sl_ hs hi
    simp only [setsF, setF, Option.some.injEq] at hs
    subst hs
    case hi0 => exact ⟨by omega, rfl⟩
    obtain ⟨hk, hn⟩ := hi
    by_cases hlt : k < a.length
    · cases he : (a.getD k 0 != b.getD k 0) with
      | true =>
        refine Run ?_ trivial trivial trivial trivial trivial trivial trivial trivial trivial trivial trivial trivial
        simp only [aone, AV.wk, AV.bool.injEq]
        refine (beq_eq_false_iff_ne.2 fun e => ?_).symm
        subst e
        simp at he
      | false =>
        refine Run ?_ trivial trivial trivial trivial trivial trivial trivial trivial trivial trivial trivial trivial
        refine ALoopQ_normal ⟨k + 1, [_, _, _, _, _, _, _, _, _, _, _, _, _, _]⟩ rfl rfl ?hi1 ?hm1
        case hi1 =>
          refine ⟨by omega, ?_⟩
          rw [List.take_add_one, List.take_add_one, hn]
          have hka : k < b.length := by omega
          simp only [List.getD_eq_getElem?_getD, List.getElem?_eq_getElem hlt, List.getElem?_eq_getElem hka, Option.getD_some, bne_eq_false_iff_eq] at he
          rw [List.getElem?_eq_getElem hlt, List.getElem?_eq_getElem hka, he]
        case hm1 => simp only; omega
    · obtain rfl : k = a.length := by omega
      refine Run ?_ trivial trivial trivial trivial trivial trivial trivial trivial trivial trivial trivial trivial
      rw [List.take_length, List.take_of_length_le (by omega)] at hn
      subst hn
      simp [aone, AV.wk]
  · refine Run ?_ trivial trivial trivial trivial trivial trivial trivial trivial trivial trivial trivial trivial
    simp only [aone, AV.wk, AV.bool.injEq]
    exact (beq_eq_false_iff_ne.2 fun e => hl (by rw [e])).symm
def Wp.same (x y : Wp) : Bool := decide (x.who = y.who ∧ x.box = y.box)
theorem Wp.same_iff (x y : Wp) : x.same y = true ↔ x = y := by
  obtain ⟨a, b⟩ := x
  obtain ⟨c, d⟩ := y
  simp [Wp.same]
theorem wsame1_val (x y : Wp) (hm : x.box.length ≤ 1000000000) : AVal Try.prog 83 [.agg [.int .i64 x.who, bsA x.box], .agg [.int .i64 y.who, bsA y.box]] (.bool (x.same y)) := by
  refine AVal.mkw (by simp [AV.shutL, AV.shut, shutL_bvA]) (by simp [AV.shut]) ?_
  refine ACalls_body Try.func83 rfl rfl ?_
  simp only [Try.ntmps83, List.length_cons, List.length_nil, Nat.reduceAdd, Nat.reduceSub, List.replicate_succ, List.replicate_zero, List.cons_append, List.nil_append]
  have h1 := equal_val x.box y.box hm
  by_cases hb : x.box = y.box
  · rw [show (x.box == y.box) = true from beq_iff_eq.2 hb] at h1
    refine Run trivial trivial trivial trivial trivial trivial trivial trivial trivial trivial trivial @Wp.same.eq_1 Split.ok
  · rw [show (x.box == y.box) = false from beq_eq_false_iff_ne.2 hb] at h1
    refine Run trivial trivial trivial trivial trivial trivial trivial trivial trivial trivial trivial @Wp.same.eq_1 Split.ok
set_option maxHeartbeats 4000000 in
theorem wequalFunc_val (a b : List Wp) (hb : ∀ x ∈ a, x.box.length ≤ 1000000000) (hm : a.length ≤ 1000000000) : AVal Try.prog 82 [wrA a, wrA b, .fn 83 [] []] (.bool (decide (a = b))) := by
  refine AVal.mkw (by simp only [AV.shutL, wrA_shut, AV.shut, Bool.and_self]; simp [wpCs_shut]) (by simp [AV.shut]) ?_
  refine ACalls_body Try.func82 rfl rfl ?_
  simp only [Try.ntmps82, List.length_cons, List.length_nil, Nat.reduceAdd, Nat.reduceSub, List.replicate_succ, List.replicate_zero, List.cons_append, List.nil_append]
  by_cases hl : (a.length : Int) = b.length
  · refine Run ?_ trivial trivial trivial trivial trivial trivial trivial trivial trivial trivial trivial trivial
    refine AWP_loopW [6, 7, 8, 9, 15, 16, 17, 18, 19, 20, 21, 22, 23, 24, 25, 26, 27, 28, 29, 30, 31] (N := Nat × Int × List AV) (fun ⟨k, nx, js⟩ => [js.getD 0 .und, js.getD 1 .und, js.getD 2 .und, js.getD 3 .und, wrA a, .int .i64 (a.length : Int), .int .i64 (k : Int), js.getD 4 .und, js.getD 5 .und, js.getD 6 .und, js.getD 7 .und, js.getD 8 .und, js.getD 9 .und, js.getD 10 .und, js.getD 11 .und, js.getD 12 .und, js.getD 13 .und, js.getD 14 .und, js.getD 15 .und, js.getD 16 .und, js.getD 17 .und]) (fun ⟨k, nx, js⟩ => ⟨[], [], nx⟩) (fun ⟨k, nx, js⟩ => k ≤ a.length ∧ a.take k = b.take k) (fun ⟨k, nx, js⟩ => a.length - k) ⟨0, 0, [_, _, _, _, _, _, _, _, _, _, _, _, _, _, _, _, _, _]⟩ rfl ?hs0 ?hi0 ?_
    rotate_left 2
    rintro ⟨k, nx, js⟩ sl_ hs hi
    simp only [setsF, setF, Option.some.injEq] at hs
    subst hs
    case hs0 => exact ASub.refl _
    case hi0 => exact ⟨by omega, rfl⟩
    obtain ⟨hk, hn⟩ := hi
    by_cases hlt : k < a.length
    · have hka : k < b.length := by omega
      have hel : a[k]? = some a[k] := List.getElem?_eq_getElem hlt
      have hel2 : b[k]? = some b[k] := List.getElem?_eq_getElem hka
      have hcl := wpCs_load hel
      have hcl2 := wpCs_load hel2
      have h1 := wsame1_val a[k] b[k] (hb _ (List.getElem_mem hlt))
      cases he : a[k].same b[k] with
      | true =>
        rw [he] at h1
        refine Run ?_ trivial trivial trivial trivial trivial trivial trivial trivial trivial trivial trivial trivial
        refine ALoopW_normal ⟨k + 1, nx + 1 + 1, [_, _, _, _, _, _, _, _, _, _, _, _, _, _, _, _, _, _]⟩ rfl ?hs1 ?hi1 ?hm1
        case hs1 => exact ((ASub.refl _).drop rfl).drop (by simp only [alook]; rw [if_neg (by omega)])
        case hi1 =>
          refine ⟨by omega, ?_⟩
          rw [List.take_add_one, List.take_add_one, hn, hel, hel2, (Wp.same_iff _ _).1 he]
        case hm1 => simp only; omega
      | false =>
        rw [he] at h1
        rw [decide_eq_false (fun h => by
          have h2 : a[k] = b[k] := by subst h; rfl
          rw [(Wp.same_iff _ _).2 h2] at he; cases he)]
        refine Run ?_ trivial trivial trivial trivial trivial trivial trivial trivial trivial trivial trivial trivial
        rfl
    · obtain rfl : k = a.length := by omega
      rw [List.take_length, List.take_of_length_le (by omega)] at hn
      rw [decide_eq_true hn]
      refine Run ?_ trivial trivial trivial trivial trivial trivial trivial trivial trivial trivial trivial trivial
      rfl
  · rw [decide_eq_false (fun h => hl (by rw [h]))]
    refine Run ?_ trivial trivial trivial trivial trivial trivial trivial trivial trivial trivial trivial trivial
    rfl
def En.bare (e : En) : En :=
  if e.kind = 1 then ⟨e.kind, e.writer, e.seq, e.name, e.value, 0, 0, 0, []⟩
  else if e.kind = 2 then ⟨e.kind, e.writer, e.seq, e.name, [], 0, 0, 0, []⟩
  else if e.kind = 3 then ⟨e.kind, e.writer, e.seq, [], [], e.who, e.rights, 0, []⟩
  else if e.kind = 4 then ⟨e.kind, e.writer, e.seq, [], [], e.who, 0, 0, []⟩
  else if e.kind = 5 then ⟨e.kind, e.writer, e.seq, [], [], 0, 0, e.epoch, e.wraps⟩
  else ⟨e.kind, e.writer, e.seq, [], [], 0, 0, 0, []⟩
theorem bare_val (e : En) : AVal Try.prog 63 [enA e] (enA e.bare) := by
  refine AVal.mkw (by simp only [AV.shutL, enA_shut, Bool.and_self]) (enA_shut _) ?_
  refine ACalls_body Try.func63 rfl rfl ?_
  simp only [Try.ntmps63, List.length_cons, List.length_nil, Nat.reduceAdd, Nat.reduceSub, List.replicate_succ, List.replicate_zero, List.cons_append, List.nil_append]
  unfold En.bare
  by_cases h1 : e.kind = 1
  · rw [if_pos h1]
    refine Run ?_ trivial trivial trivial trivial trivial trivial trivial trivial trivial trivial trivial trivial
    simp only [aone, AV.wk, AV.wkL, AV.wkL_bvA, wpCs_wk]
    rfl
  rw [if_neg h1]
  by_cases h2 : e.kind = 2
  · rw [if_pos h2]
    refine Run ?_ trivial trivial trivial trivial trivial trivial trivial trivial trivial trivial trivial trivial
    simp only [aone, AV.wk, AV.wkL, AV.wkL_bvA, wpCs_wk]
    rfl
  rw [if_neg h2]
  by_cases h3 : e.kind = 3
  · rw [if_pos h3]
    refine Run ?_ trivial trivial trivial trivial trivial trivial trivial trivial trivial trivial trivial trivial
    simp only [aone, AV.wk, AV.wkL, AV.wkL_bvA, wpCs_wk]
    rfl
  rw [if_neg h3]
  by_cases h4 : e.kind = 4
  · rw [if_pos h4]
    refine Run ?_ trivial trivial trivial trivial trivial trivial trivial trivial trivial trivial trivial trivial
    simp only [aone, AV.wk, AV.wkL, AV.wkL_bvA, wpCs_wk]
    rfl
  rw [if_neg h4]
  by_cases h5 : e.kind = 5
  · rw [if_pos h5]
    refine Run ?_ trivial trivial trivial trivial trivial trivial trivial trivial trivial trivial trivial trivial
    simp only [aone, AV.wk, AV.wkL, AV.wkL_bvA, wpCs_wk]
    rfl
  rw [if_neg h5]
  refine Run ?_ trivial trivial trivial trivial trivial trivial trivial trivial trivial trivial trivial trivial
  simp only [aone, AV.wk, AV.wkL, AV.wkL_bvA, wpCs_wk]
  rfl
def En.same (a b : En) : Bool := decide (a.kind = b.kind ∧ a.writer = b.writer ∧ a.seq = b.seq ∧ a.name = b.name ∧ a.value = b.value ∧ a.who = b.who ∧ a.rights = b.rights ∧ a.epoch = b.epoch ∧ a.wraps = b.wraps)
theorem En.same_iff (a b : En) : a.same b = true ↔ a = b := by
  obtain ⟨⟩ := a
  obtain ⟨⟩ := b
  simp only [En.same, decide_eq_true_eq, En.mk.injEq]
/-- Not too long. -/
structure En.Mid (e : En) : Prop where
  name : e.name.length ≤ 1000000
  value : e.value.length ≤ 1000000
  wraps : e.wraps.length ≤ 1000000
  boxes : ∀ w ∈ e.wraps, w.box.length ≤ 1000000
set_option maxHeartbeats 4000000 in
theorem ensame_val (a b : En) (hm : a.Mid) : AVal Try.prog 62 [enA a, enA b] (.bool (a.same b)) := by
  refine AVal.mkw (by simp only [AV.shutL, enA_shut, Bool.and_self]) (by simp [AV.shut]) ?_
  refine ACalls_body Try.func62 rfl rfl ?_
  simp only [Try.ntmps62, List.length_cons, List.length_nil, Nat.reduceAdd, Nat.reduceSub, List.replicate_succ, List.replicate_zero, List.cons_append, List.nil_append]
  have h1 := equal_val a.name b.name (by have := hm.name; omega)
  have h2 := equal_val a.value b.value (by have := hm.value; omega)
  have h3 := wequalFunc_val a.wraps b.wraps (fun x hx => by have := hm.boxes x hx; omega) (by have := hm.wraps; omega)
  by_cases hw : a.wraps = b.wraps
  · rw [decide_eq_true hw] at h3
    refine Run trivial trivial trivial trivial trivial trivial trivial trivial trivial trivial trivial @En.same.eq_1 Split.ok
  · rw [decide_eq_false hw] at h3
    refine Run trivial trivial trivial trivial trivial trivial trivial trivial trivial trivial trivial @En.same.eq_1 Split.ok
end Go.Proofs.Ytnjkklkjlloedaa
