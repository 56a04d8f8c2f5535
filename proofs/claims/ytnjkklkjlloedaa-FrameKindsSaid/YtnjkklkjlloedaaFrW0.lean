/- Law 17: the anchor, small. -/
import Derived.Test.YtnjkklkjlloedaaFrP
import Derived.Test.YtnjkklkjlloedaaFrO
namespace Go.Proofs.Ytnjkklkjlloedaa
open Go.RowKit
set_option linter.unusedVariables false
set_option linter.unusedSimpArgs false
set_option maxRecDepth 10000
def f0_ : Fr := ⟨2, 1, 3, [], []⟩
theorem f0_ok : FrOk f0_ := by simp [FrOk, f0_]
theorem f0_len : (frB f0_).length = 26 := by simp [frB_eq, f0_, numB, textB]
theorem encR_ok {f : Fr} (h : FrOk f) (h2 : (frB f).length ≤ 32768) : encR f = okA (frB f) := by unfold encR; rw [if_pos h, if_neg (by omega)]
theorem encR_big {f : Fr} (h : FrOk f) (h2 : 32768 < (frB f).length) : encR f = erA 11 := by unfold encR; rw [if_pos h, if_pos h2]
theorem encR_no {f : Fr} (h : ¬ FrOk f) : encR f = erA 10 := by unfold encR; rw [if_neg h]
theorem decR_ok {f : Fr} (h : FrOk f) (h2 : (frB f).length ≤ 32768) : decR (frB f) = .tup [frA f, .int .i64 0] := by unfold decR; rw [if_neg (by omega), if_pos (dec_ok h).1, (dec_ok h).2]
theorem decR_no {b : List UInt8} (h : ¬ decOk b) (h2 : b.length ≤ 32768) : decR b = .tup [frA zeroF, .int .i64 10] := by unfold decR; rw [if_neg (by omega), if_neg h]
theorem anchor17_val : AVal Try.prog 44 [] (.bool true) := by
  refine AVal.mkw (by simp [AV.shutL]) (by simp [AV.shut]) ?_
  refine ACalls_body Try.func44 rfl rfl ?_
  simp only [Try.ntmps44, List.length_cons, List.length_nil, Nat.reduceAdd, Nat.reduceSub, List.replicate_succ, List.replicate_zero, List.cons_append, List.nil_append]
  have hl := f0_len
  have h1 : AVal Try.prog 47 [.agg [.int .i64 2, .int .i64 1, .int .i64 3, .sl .none [] 0, .sl .none [] 0]] (okA (frB f0_)) := by
    have := encode_val f0_ (by simp [f0_])
    rw [encR_ok f0_ok (by omega)] at this
    exact this
  have h2 : AVal Try.prog 23 [bsA (frB f0_)] (.tup [.agg [.int .i64 2, .int .i64 1, .int .i64 3, .sl .none [] 0, .sl .none [] 0], .int .i64 0]) := by
    have := decode_val (frB f0_) (by omega)
    rw [decR_ok f0_ok (by omega)] at this
    exact this
  have h3 : AVal Try.prog 46 [.agg [.int .i64 0, .int .i64 0, .int .i64 0, .sl .none [] 0, .sl .none [] 0]] (.bool false) := by
    have := right_val zeroF (by simp [zeroF])
    rw [decide_eq_false zeroF_no] at this
    exact this
  refine Run ?_ trivial trivial trivial trivial trivial trivial trivial trivial trivial trivial trivial trivial
  rfl
def SmallF (f : Fr) : Prop := (∀ b ∈ f.links, b.length ≤ 4200) ∧ f.links.length ≤ 12 ∧ f.sum.length ≤ 100
instance (f : Fr) : Decidable (SmallF f) := by unfold SmallF; infer_instance
theorem small17_val (f : Fr) (hm : f.links.length ≤ 9223372036854775807) : AVal Try.prog 45 [frA f] (.bool (decide (SmallF f))) := by
  refine AVal.mkw (by simp only [AV.shutL, frA_shut, Bool.and_self]) (by simp [AV.shut]) ?_
  refine ACalls_body Try.func45 rfl rfl ?_
  simp only [Try.ntmps45, List.length_cons, List.length_nil, Nat.reduceAdd, Nat.reduceSub, List.replicate_succ, List.replicate_zero, List.cons_append, List.nil_append]
  unfold frA
  refine Run ?_ trivial trivial trivial trivial trivial trivial trivial trivial trivial trivial trivial trivial
  refine AWP_loopS [2, 4, 6, 7, 8, 9, 10, 11, 12, 13, 14, 15] (N := Nat × List AV) (fun ⟨k, js⟩ => [js.getD 0 .und, js.getD 1 .und, lkA f.links, .int .i64 (f.links.length : Int), .int .i64 (k : Int), js.getD 2 .und, js.getD 3 .und, js.getD 4 .und, js.getD 5 .und, js.getD 6 .und, js.getD 7 .und, js.getD 8 .und]) (fun ⟨k, js⟩ => ⟨[(0, [.int .i64 f.kind, .int .i64 f.coll, .int .i64 f.idx, lkA f.links, bsA f.sum])], [], 1⟩) (fun ⟨k, js⟩ => k ≤ f.links.length ∧ ∀ b ∈ f.links.take k, b.length ≤ 4200) (fun ⟨k, js⟩ => f.links.length - k) ⟨0, [_, _, _, _, _, _, _, _, _]⟩ rfl rfl ?hi0 ?_
  rotate_left
  rintro ⟨k, js⟩ sl_ hs hi
  simp only [setsF, setF, Option.some.injEq] at hs
  subst hs
  case hi0 => exact ⟨by omega, by simp⟩
  obtain ⟨hk, hn⟩ := hi
  by_cases hlt : k < f.links.length
  · have hel : f.links[k]? = some f.links[k] := List.getElem?_eq_getElem hlt
    have hcl : (f.links.map bsA)[k]? = some (bsA f.links[k]) := by rw [List.getElem?_map, hel]; rfl
    generalize hx : f.links[k] = x at *
    by_cases h1 : x.length ≤ 4200
    · refine Run ?_ trivial trivial trivial trivial trivial trivial trivial trivial trivial trivial trivial trivial
      refine ALoopQ_normal ⟨k + 1, [_, _, _, _, _, _, _, _, _]⟩ rfl rfl ?hi1 ?hm1
      case hi1 => exact ⟨by omega, take_succ_all hel hn h1⟩
      case hm1 => simp only; omega
    · rw [decide_eq_false (fun h => h1 (h.1 x (List.mem_of_getElem? hel)))]
      refine Run ?_ trivial trivial trivial trivial trivial trivial trivial trivial trivial trivial trivial trivial
      rfl
  · obtain rfl : k = f.links.length := by omega
    rw [List.take_length] at hn
    have hF : SmallF f ↔ f.links.length ≤ 12 ∧ f.sum.length ≤ 100 := ⟨fun h => h.2, fun h => ⟨hn, h⟩⟩
    refine Run trivial trivial trivial trivial trivial trivial trivial trivial trivial trivial trivial hF Split.ok
theorem SmallF.bytes {f : Fr} (h : SmallF f) (hok : FrOk f) : (frB f).length ≤ 100000 := by
  have hl := hok.links
  have hs := hok.sum
  rw [frB_eq]
  simp only [List.length_append, numB_length]
  have h2 : ∀ (ls : List (List UInt8)), (∀ b ∈ ls, b.length ≤ 4096) → (ls.flatMap textB).length ≤ 4098 * ls.length := by
    intro ls
    induction ls with
    | nil => simp
    | cons b ls ih =>
      intro hb
      have := ih (fun c hc => hb c (List.mem_cons_of_mem _ hc))
      have h3 := hb b (List.mem_cons_self ..)
      simp only [List.flatMap_cons, List.length_append, List.length_cons, textB, List.length_nil]
      omega
  have := h2 f.links (fun b hb => (hl.2 b hb).2)
  simp only [textB, List.length_append, List.length_cons, List.length_nil]
  omega
theorem Fr.same_self (f : Fr) : f.same f = true := (Fr.same_iff f f).2 rfl
end Go.Proofs.Ytnjkklkjlloedaa
