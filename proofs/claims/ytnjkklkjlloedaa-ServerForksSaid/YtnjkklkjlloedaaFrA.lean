/- frame: links, Right, by the abstract machine. -/
import Derived.Test.YtnjkklkjlloedaaPutA
namespace Go.Proofs.Ytnjkklkjlloedaa
open Go.RowKit
set_option linter.unusedVariables false
set_option linter.unusedSimpArgs false
set_option maxRecDepth 10000
/-- A frame. -/
structure Fr where
  kind : Int
  coll : Int
  idx : Int
  links : List (List UInt8)
  sum : List UInt8
abbrev frA (f : Fr) : AV := .agg [.int .i64 f.kind, .int .i64 f.coll, .int .i64 f.idx, lkA f.links, bsA f.sum]
theorem frA_shut (f : Fr) : (frA f).shut = true := by simp only [frA, AV.shut, AV.shutL, lkA_shut, bsA_shut, Bool.and_self]; simp [AV.shut, bsAs_shut, shutL_bvA]
def lkBad (b : List UInt8) : Bool := decide (b.length < 1 ∨ 4096 < b.length)
theorem links1_val (b : List UInt8) : AVal Try.prog 88 [bsA b] (.bool (lkBad b)) := by
  refine AVal.mkw (by simp [AV.shutL, bsA_shut]) (by simp [AV.shut]) ?_
  refine ACalls_body Try.func88 rfl rfl ?_
  simp only [Try.ntmps88, List.length_cons, List.length_nil, Nat.reduceAdd, Nat.reduceSub, List.replicate_succ, List.replicate_zero, List.cons_append, List.nil_append]
  unfold lkBad
  refine Run trivial trivial trivial trivial trivial trivial trivial trivial trivial trivial trivial trivial Split.ok
def idxF {α : Type} (p : α → Bool) (l : List α) : Int := match l.findIdx? p with | some i => i | none => -1
theorem idxF_at {α : Type} (p : α → Bool) (l : List α) (k : Nat) (x : α) (hx : l[k]? = some x) (h0 : ∀ y ∈ l.take k, p y = false) (h : p x = true) : idxF p l = k := by
  obtain ⟨hk, rfl⟩ := List.getElem?_eq_some_iff.1 hx
  have : l.findIdx? p = some k := by
    rw [List.findIdx?_eq_some_iff_getElem]
    refine ⟨hk, h, fun j hj => ?_⟩
    have := h0 l[j] (by rw [List.mem_take_iff_getElem]; exact ⟨j, by omega, rfl⟩)
    simp [this]
  simp [idxF, this]
theorem idxF_no {α : Type} (p : α → Bool) (l : List α) (h0 : ∀ y ∈ l, p y = false) : idxF p l = -1 := by
  have : l.findIdx? p = none := by simpa using h0
  simp [idxF, this]
theorem take_succ_all {α : Type} {p : α → Prop} {l : List α} {k : Nat} {x : α} (hx : l[k]? = some x) (h0 : ∀ y ∈ l.take k, p y) (h : p x) : ∀ y ∈ l.take (k + 1), p y := by
  intro y hy
  rw [List.take_add_one, hx] at hy
  rcases List.mem_append.1 hy with hy | hy
  · exact h0 y hy
  · simp at hy; subst hy; exact h
theorem indexFunc_val (g : FuncId) (p : List UInt8 → Bool) (hg : ∀ b, AVal Try.prog g [bsA b] (.bool (p b))) (hc : ∀ (vs : Array Value) (w : World), (callFunc g vs).run Try.prog w = .ok (.enter g vs) w) (ls : List (List UInt8)) (hm : ls.length ≤ 1000000) : AVal Try.prog 90 [lkA ls, .fn g [] []] (.int .i64 (idxF p ls)) := by
  refine AVal.mkw (by simp [AV.shutL, lkA_shut, AV.shut, bsAs_shut]) (by simp [AV.shut]) ?_
  refine ACalls_body Try.func90 rfl rfl ?_
  simp only [Try.ntmps90, List.length_cons, List.length_nil, Nat.reduceAdd, Nat.reduceSub, List.replicate_succ, List.replicate_zero, List.cons_append, List.nil_append]
  refine Run ?_ trivial trivial trivial trivial trivial trivial trivial trivial trivial trivial trivial trivial
  refine AWP_loopS [4, 5, 6, 7, 8, 9, 10, 11, 12, 13, 14, 15, 16, 17, 18] (N := Nat × List AV) (fun ⟨k, js⟩ => [js.getD 0 .und, js.getD 1 .und, lkA ls, .int .i64 (ls.length : Int), .int .i64 (k : Int), js.getD 2 .und, js.getD 3 .und, js.getD 4 .und, js.getD 5 .und, js.getD 6 .und, js.getD 7 .und, js.getD 8 .und, js.getD 9 .und, js.getD 10 .und, js.getD 11 .und]) (fun ⟨k, js⟩ => ⟨[], [], 0⟩) (fun ⟨k, js⟩ => k ≤ ls.length ∧ ∀ b ∈ ls.take k, p b = false) (fun ⟨k, js⟩ => ls.length - k) ⟨0, [_, _, _, _, _, _, _, _, _, _, _, _]⟩ rfl rfl ?hi0 ?_
  rotate_left
  rintro ⟨k, js⟩ sl_ hs hi
  simp only [setsF, setF, Option.some.injEq] at hs
  subst hs
  case hi0 => exact ⟨by omega, by simp⟩
  obtain ⟨hk, hn⟩ := hi
  by_cases hlt : k < ls.length
  · have hel : ls[k]? = some ls[k] := List.getElem?_eq_getElem hlt
    have hcl : (ls.map bsA)[k]? = some (bsA ls[k]) := by rw [List.getElem?_map, hel]; rfl
    have h1 := hg ls[k]
    cases hp : p ls[k] with
    | true =>
      rw [hp] at h1
      refine Run ?_ trivial trivial trivial trivial trivial trivial trivial trivial trivial trivial trivial trivial
      rw [idxF_at p ls k _ hel hn hp]
      rfl
    | false =>
      rw [hp] at h1
      refine Run ?_ trivial trivial trivial trivial trivial trivial trivial trivial trivial trivial trivial trivial
      refine ALoopQ_normal ⟨k + 1, [_, _, _, _, _, _, _, _, _, _, _, _]⟩ rfl rfl ?hi1 ?hm1
      case hi1 => exact ⟨by omega, take_succ_all hel hn hp⟩
      case hm1 => simp only; omega
  · obtain rfl : k = ls.length := by omega
    rw [List.take_length] at hn
    refine Run ?_ trivial trivial trivial trivial trivial trivial trivial trivial trivial trivial trivial trivial
    rw [idxF_no p ls hn]
    rfl
theorem containsFunc_val (g : FuncId) (p : List UInt8 → Bool) (hg : ∀ b, AVal Try.prog g [bsA b] (.bool (p b))) (hc : ∀ (vs : Array Value) (w : World), (callFunc g vs).run Try.prog w = .ok (.enter g vs) w) (ls : List (List UInt8)) (hm : ls.length ≤ 1000000) : AVal Try.prog 76 [lkA ls, .fn g [] []] (.bool (ls.any p)) := by
  refine AVal.mkw (by simp [AV.shutL, lkA_shut, AV.shut, bsAs_shut]) (by simp [AV.shut]) ?_
  refine ACalls_body Try.func76 rfl rfl ?_
  simp only [Try.ntmps76, List.length_cons, List.length_nil, Nat.reduceAdd, Nat.reduceSub, List.replicate_succ, List.replicate_zero, List.cons_append, List.nil_append]
  have h1 := indexFunc_val g p hg hc ls hm
  have h2 : (ls.any p) = decide (idxF p ls ≥ 0) := by
    unfold idxF
    cases hf : ls.findIdx? p with
    | some i => simp [List.findIdx?_eq_some_iff_getElem] at hf ⊢; obtain ⟨h, h3, _⟩ := hf; exact ⟨_, List.getElem_mem h, h3⟩
    | none => simpa using hf
  rw [h2]
  refine Run ?_ trivial trivial trivial trivial trivial trivial trivial trivial trivial trivial trivial trivial
  rfl
/-- Links are right. -/
def LkOk (ls : List (List UInt8)) (least : Int) : Prop := least ≤ ls.length ∧ ls.length ≤ 8 ∧ ls.any lkBad = false
instance (ls : List (List UInt8)) (least : Int) : Decidable (LkOk ls least) := by unfold LkOk; infer_instance
theorem links_val (ls : List (List UInt8)) (least : Int) (hm : ls.length ≤ 1000000) : AVal Try.prog 71 [lkA ls, .int .i64 least] (.bool (decide (LkOk ls least))) := by
  refine AVal.mkw (by simp [AV.shutL, lkA_shut, AV.shut, bsAs_shut]) (by simp [AV.shut]) ?_
  refine ACalls_body Try.func71 rfl rfl ?_
  simp only [Try.ntmps71, List.length_cons, List.length_nil, Nat.reduceAdd, Nat.reduceSub, List.replicate_succ, List.replicate_zero, List.cons_append, List.nil_append]
  have h1 := containsFunc_val 88 lkBad links1_val (fun vs w => by kernel_rfl) ls hm
  unfold LkOk
  by_cases hb : ls.any lkBad = true
  · rw [hb] at h1
    refine Run trivial trivial trivial trivial trivial trivial trivial trivial trivial trivial trivial trivial Split.ok
  · rw [Bool.not_eq_true] at hb
    rw [hb] at h1
    refine Run trivial trivial trivial trivial trivial trivial trivial trivial trivial trivial trivial trivial Split.ok
/-- A frame is right. -/
def FrOk (f : Fr) : Prop := 1 ≤ f.coll ∧ f.coll ≤ 1099511627776 ∧ 0 ≤ f.idx ∧ f.idx ≤ 64 ∧
  ((f.kind = 1 ∧ LkOk f.links 1 ∧ f.idx = 0 ∧ f.sum.length = 0) ∨ (f.kind = 2 ∧ f.links.length = 0 ∧ f.sum.length = 0) ∨ (f.kind = 3 ∧ LkOk f.links 0 ∧ f.sum.length = 0) ∨ (f.kind = 4 ∧ f.links.length = 0 ∧ f.sum.length = 32))
instance (f : Fr) : Decidable (FrOk f) := by unfold FrOk; infer_instance
set_option maxHeartbeats 1000000 in
theorem right_val (f : Fr) (hm : f.links.length ≤ 1000000) : AVal Try.prog 46 [frA f] (.bool (decide (FrOk f))) := by
  refine AVal.mkw (by simp only [AV.shutL, frA_shut, Bool.and_self]) (by simp [AV.shut]) ?_
  refine ACalls_body Try.func46 rfl rfl ?_
  simp only [Try.ntmps46, List.length_cons, List.length_nil, Nat.reduceAdd, Nat.reduceSub, List.replicate_succ, List.replicate_zero, List.cons_append, List.nil_append]
  have h1 := links_val f.links 1 hm
  have h0 := links_val f.links 0 hm
  by_cases hl1 : LkOk f.links 1 <;> by_cases hl0 : LkOk f.links 0 <;> simp only [hl1, hl0, decide_true, decide_false] at h1 h0 <;> unfold frA
  · refine Run trivial trivial trivial trivial trivial trivial trivial trivial trivial trivial trivial @FrOk.eq_1 Split.ok
  · refine Run trivial trivial trivial trivial trivial trivial trivial trivial trivial trivial trivial @FrOk.eq_1 Split.ok
  · refine Run trivial trivial trivial trivial trivial trivial trivial trivial trivial trivial trivial @FrOk.eq_1 Split.ok
  · refine Run trivial trivial trivial trivial trivial trivial trivial trivial trivial trivial trivial @FrOk.eq_1 Split.ok
end Go.Proofs.Ytnjkklkjlloedaa
