/- frame: Encode, by the abstract machine. -/
import Derived.Test.YtnjkklkjlloedaaFrB
namespace Go.Proofs.Ytnjkklkjlloedaa
open Go.RowKit
set_option linter.unusedVariables false
set_option linter.unusedSimpArgs false
set_option maxRecDepth 10000
def frP0 (f : Fr) (ls : List (List UInt8)) : List Pt := [.inl f.kind, .inl f.coll, .inl f.idx, .inl f.links.length] ++ ls.map .inr
def frP (f : Fr) : List Pt := [.inl f.kind, .inl f.coll, .inl f.idx, .inl f.links.length] ++ f.links.map .inr ++ [.inr f.sum]
/-- A frame's bytes. -/
def frB (f : Fr) : List UInt8 := putB (frP f)
theorem LkOk.le {ls : List (List UInt8)} {k : Int} (h : LkOk ls k) : ∀ b ∈ ls, 1 ≤ b.length ∧ b.length ≤ 4096 := by
  intro b hb
  have h3 := h.2.2
  rw [List.any_eq_false] at h3
  have := h3 b hb
  simp only [lkBad, decide_eq_true_eq] at this
  omega
theorem FrOk.links {f : Fr} (h : FrOk f) : f.links.length ≤ 8 ∧ ∀ b ∈ f.links, 1 ≤ b.length ∧ b.length ≤ 4096 := by
  obtain ⟨_, _, _, _, h | h | h | h⟩ := h
  · exact ⟨h.2.1.2.1, h.2.1.le⟩
  · rw [List.eq_nil_of_length_eq_zero h.2.1]; simp
  · exact ⟨h.2.1.2.1, h.2.1.le⟩
  · rw [List.eq_nil_of_length_eq_zero h.2.1]; simp
theorem FrOk.sum {f : Fr} (h : FrOk f) : f.sum.length ≤ 32 := by
  obtain ⟨_, _, _, _, h | h | h | h⟩ := h <;> omega
theorem FrOk.put {f : Fr} (h : FrOk f) : putErr (frP f) = 0 := by
  have hl := h.links
  have hs := h.sum
  rw [putErr_ok]
  intro p hp
  simp only [frP, List.mem_append, List.mem_cons, List.mem_map, List.not_mem_nil, or_false] at hp
  rcases hp with ((rfl | rfl | rfl | rfl) | ⟨b, hb, rfl⟩) | rfl
  · obtain ⟨_, _, _, _, h | h | h | h⟩ := h <;> simp [ptErr, h.1]
  · simp only [ptErr]; rw [if_pos ⟨by have := h.1; omega, h.2.1⟩]
  · simp only [ptErr]; rw [if_pos ⟨h.2.2.1, by have := h.2.2.2.1; omega⟩]
  · simp only [ptErr]; rw [if_pos ⟨by omega, by omega⟩]
  · simp only [ptErr]; rw [if_pos (hl.2 b hb).2]
  · simp only [ptErr]; rw [if_pos (by omega)]
def encR (f : Fr) : AV := if FrOk f then (if 32768 < (frB f).length then erA 11 else okA (frB f)) else erA 10
theorem encR_shut (f : Fr) : (encR f).shut = true := by unfold encR; split; split; exact erA_shut _; exact okA_shut _; exact erA_shut _
theorem encode_val (f : Fr) (hm : f.links.length ≤ 1000000) : AVal Try.prog 47 [frA f] (encR f) := by
  refine AVal.mkw (by simp only [AV.shutL, frA_shut, Bool.and_self]) (encR_shut _) ?_
  refine ACalls_body Try.func47 rfl rfl ?_
  simp only [Try.ntmps47, List.length_cons, List.length_nil, Nat.reduceAdd, Nat.reduceSub, List.replicate_succ, List.replicate_zero, List.cons_append, List.nil_append]
  have hR := right_val f hm
  unfold encR
  by_cases hok : FrOk f
  · rw [decide_eq_true hok] at hR
    rw [if_pos hok]
    have hl := hok.links
    refine Run ?_ trivial trivial trivial trivial trivial trivial trivial trivial trivial trivial trivial trivial
    refine AWP_adoptF 4 1 rfl rfl (by simp only [setF]; rfl) ?_
    refine AWP_loopS [4, 6, 27, 28, 29, 30, 31, 32, 33, 34, 35, 36, 37, 38] (N := Nat × Nat × List AV × List AV) (fun ⟨k, n, cs, js⟩ => [.sl (.tok 1 n 1) cs n, js.getD 0 .und, lkA f.links, .int .i64 (f.links.length : Int), .int .i64 (k : Int), js.getD 1 .und, js.getD 2 .und, js.getD 3 .und, js.getD 4 .und, js.getD 5 .und, js.getD 6 .und, js.getD 7 .und, js.getD 8 .und, js.getD 9 .und]) (fun ⟨k, n, cs, js⟩ => ⟨[(0, [.int .i64 f.kind, .int .i64 f.coll, .int .i64 f.idx, lkA f.links, bsA f.sum])], [(1, n)], 2⟩) (fun ⟨k, n, cs, js⟩ => k ≤ f.links.length ∧ n = 4 + k ∧ cs = (frP0 f (f.links.take k)).map ptA) (fun ⟨k, n, cs, js⟩ => f.links.length - k) ⟨0, 4, _, [_, _, _, _, _, _, _, _, _, _]⟩ rfl rfl ?hi0 ?_
    rotate_left
    rintro ⟨k, n, cs, js⟩ sl_ hs hi
    simp only [setsF, setF, Option.some.injEq] at hs
    subst hs
    case hi0 => exact ⟨by omega, rfl, rfl⟩
    obtain ⟨hk, hn, hcs⟩ := hi
    by_cases hlt : k < f.links.length
    · have hel : f.links[k]? = some f.links[k] := List.getElem?_eq_getElem hlt
      have hcl : (f.links.map bsA)[k]? = some (bsA f.links[k]) := by rw [List.getElem?_map, hel]; rfl
      refine Run ?_ trivial trivial trivial trivial trivial trivial trivial trivial trivial trivial trivial trivial
      refine ALoopQ_normal ⟨k + 1, _, _, [_, _, _, _, _, _, _, _, _, _]⟩ rfl rfl ?hi1 ?hm1
      case hi1 =>
        refine ⟨by omega, by omega, ?_⟩
        rw [List.take_add_one, hel, hcs]
        simp only [frP0, Option.toList_some, List.map_append, List.map_cons, List.map_nil, ptA, List.append_assoc]
      case hm1 => simp only; omega
    · obtain rfl : k = f.links.length := by omega
      rw [List.take_length] at hcs
      have hP : AVal Try.prog 72 [.sl (.tok 1 (n + 1) 1) (cs ++ [.iface 27 (bsA f.sum)]) (n + 1)] (okA (frB f)) := by
        have := put_val (frP f) (.tok 1 (n + 1) 1) (n + 1) (by simp [frP]; omega) (by omega) (fun l hl' => by
          simp only [frP, List.mem_append, List.mem_cons, List.mem_map, List.not_mem_nil, or_false] at hl'
          rcases hl' with ((h | h | h | h) | ⟨b, hb, h⟩) | h
          all_goals first | (cases h; done) | (cases h; have := (hl.2 l hb).2; omega) | (cases h; have := hok.sum; omega))
        unfold putR at this
        rw [if_pos hok.put] at this
        rw [hcs]
        simpa [frP, frP0, ptA, frB] using this
      by_cases hbig : 32768 < (frB f).length
      · rw [if_pos hbig]
        refine Run ?_ trivial trivial trivial trivial trivial trivial trivial trivial trivial trivial trivial trivial
        simp [aone, AV.wk, AV.wkL]
      · rw [if_neg hbig]
        refine Run ?_ trivial trivial trivial trivial trivial trivial trivial trivial trivial trivial trivial trivial
        simp [aone, AV.wk, AV.wkL, AV.wkL_bvA]
  · rw [decide_eq_false hok] at hR
    rw [if_neg hok]
    unfold frA
    refine Run ?_ trivial trivial trivial trivial trivial trivial trivial trivial trivial trivial trivial trivial
    simp [aone, AV.wk, AV.wkL]
end Go.Proofs.Ytnjkklkjlloedaa
