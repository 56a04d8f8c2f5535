/- The reference of layer 8 by the abstract machine: the reader R. -/
import Derived.Test.YtaffpkogcpkmjaaRfN
namespace Go.Proofs.Ytaffpkogcpkmjaa
open Go.RowKit
set_option linter.unusedVariables false
set_option linter.unusedSimpArgs false
set_option maxRecDepth 10000
/-- The reference's reader: what is left is l. -/
abbrev rrC (B l : List UInt8) (bad : Bool) : List AV := [bsA B, .int .i64 ((B.length - l.length : Nat) : Int), .bool bad]
theorem rrC_shut (B l : List UInt8) (bad : Bool) : AV.shutL (rrC B l bad) = true := by simp [rrC, AV.shutL, AV.shut, shutL_bvA]
theorem suf_get {B l : List UInt8} (h : l <:+ B) {k : Nat} (hk : k < l.length) : B.getD (B.length - l.length + k) 0 = l.getD k 0 := by
  obtain ⟨p, rfl⟩ := h
  simp only [List.length_append, List.getD_eq_getElem?_getD, Nat.add_sub_cancel]
  rw [List.getElem?_append_right (by omega)]
  congr 2
  omega
set_option maxHeartbeats 2000000 in
theorem refGet_mth (B l : List UInt8) (bad : Bool) (size : Nat) (hsz : size ≤ 6) (hs : l <:+ B) (hB : B.length ≤ 1000000) : AMth Try.prog 68 (rrC B l bad) [.int .i64 (size : Int)] (.int .i64 ((rget size (l, bad)).1 : Int)) (rrC B (rget size (l, bad)).2.1 (rget size (l, bad)).2.2) := by
  refine AMth.mk (by simp [AV.shutL, AV.shut]) (rrC_shut _ _ _) (by simp [AV.shut]) (rrC_shut _ _ _) ?_
  refine ACalls_body Try.func68 rfl rfl ?_
  simp only [Try.ntmps68, List.length_cons, List.length_nil, Nat.reduceAdd, Nat.reduceSub, List.replicate_succ, List.replicate_zero, List.cons_append, List.nil_append]
  have hle := hs.length_le
  by_cases hb : bad = true
  · subst hb
    rw [show rget size (l, true) = (0, (l, true)) by unfold rget; rw [if_pos (.inl rfl)]]
    refine Run ?_ trivial trivial trivial trivial trivial trivial trivial trivial trivial trivial trivial trivial
    exact ⟨.inl rfl, Int.le_refl _, _, rfl, .inl rfl⟩
  rw [Bool.not_eq_true] at hb
  subst hb
  by_cases hl : l.length < size
  · rw [show rget size (l, false) = (0, (l, true)) by unfold rget; rw [if_pos (.inr hl)]]
    refine Run ?_ trivial trivial trivial trivial trivial trivial trivial trivial trivial trivial trivial trivial
    exact ⟨.inl rfl, Int.le_refl _, _, rfl, .inl rfl⟩
  · rw [show rget size (l, false) = (numOf (l.take size), (l.drop size, false)) by unfold rget; rw [if_neg (by simp; omega)]]
    refine Run ?_ trivial trivial trivial trivial trivial trivial trivial trivial trivial trivial trivial trivial
    refine AWP_loopS [5, 6, 28, 29, 30, 31, 32, 33, 34, 35, 36, 37, 38, 39, 40, 41, 42, 43, 44, 45, 46, 47, 48] (N := Nat × Int × List AV) (fun ⟨k, n, js⟩ => [.int .i64 n, .int .i64 (k : Int), js.getD 0 .und, js.getD 1 .und, js.getD 2 .und, js.getD 3 .und, js.getD 4 .und, js.getD 5 .und, js.getD 6 .und, js.getD 7 .und, js.getD 8 .und, js.getD 9 .und, js.getD 10 .und, js.getD 11 .und, js.getD 12 .und, js.getD 13 .und, js.getD 14 .und, js.getD 15 .und, js.getD 16 .und, js.getD 17 .und, js.getD 18 .und, js.getD 19 .und, js.getD 20 .und]) (fun ⟨k, n, js⟩ => ⟨[(0, rrC B l false)], [], 1⟩) (fun ⟨k, n, js⟩ => k ≤ size ∧ n = (numOf (l.take k) : Int)) (fun ⟨k, n, js⟩ => size - k) ⟨0, 0, [_, _, _, _, _, _, _, _, _, _, _, _, _, _, _, _, _, _, _, _, _]⟩ rfl rfl ?hi0 ?_
    rotate_left
    rintro ⟨k, n, js⟩ sl_ hs hi
    simp only [setsF, setF, Option.some.injEq] at hs
    subst hs
    case hi0 => exact ⟨by omega, rfl⟩
    obtain ⟨hk, hn⟩ := hi
    by_cases hlt : k < size
    · have hn5 : numOf (l.take k) < 256 ^ 5 := numOf_small _ 5 (by rw [List.length_take]; omega)
      refine Run ?_ trivial trivial trivial trivial trivial trivial trivial trivial trivial trivial trivial trivial
      refine ALoopQ_normal ⟨k + 1, _, [_, _, _, _, _, _, _, _, _, _, _, _, _, _, _, _, _, _, _, _, _]⟩ rfl rfl ?hi1 ?hm1
      case hi1 =>
        refine ⟨by omega, ?_⟩
        have hkl : k < l.length := by omega
        have hcl : l.getD k 0 = l[k] := by rw [List.getD_eq_getElem?_getD, List.getElem?_eq_getElem hkl]; rfl
        rw [hn, suf_get hs hkl, wraps_i64 _ (by omega) (by have := UInt8.toNat_lt (l.getD k 0); omega), List.take_add_one, List.getElem?_eq_getElem hkl, Option.toList_some, numOf_snoc, hcl]
        omega
      case hm1 => simp only; omega
    · obtain rfl : k = size := by omega
      refine Run ?_ trivial trivial trivial trivial trivial trivial trivial trivial trivial trivial trivial trivial
      refine ⟨.inl (by rw [aone, hn]), Int.le_refl _, _, rfl, .inl ?_⟩
      simp only [rrC, List.length_drop]
      rw [show ((B.length - l.length : Nat) : Int) + (k : Int) = ((B.length - (l.length - k) : Nat) : Int) by omega]
theorem suf_rget {B : List UInt8} {size : Nat} {s : RS} (h : s.1 <:+ B) : (rget size s).2.1 <:+ B := by
  unfold rget
  split
  · exact h
  · exact (List.drop_suffix _ _).trans h
theorem suf_rnum {B : List UInt8} {least most : Int} {s : RS} (h : s.1 <:+ B) : (rnum least most s).2.1 <:+ B := by
  unfold rnum
  split <;> exact suf_rget h
theorem suf_rtext {B : List UInt8} {least most : Int} {s : RS} (h : s.1 <:+ B) : (rtext least most s).2.1 <:+ B := by
  unfold rtext
  split
  · exact suf_rget h
  · split
    · exact suf_rget h
    · exact (List.drop_suffix _ _).trans (suf_rget h)
theorem refNumR_mth (B l : List UInt8) (bad : Bool) (least most : Int) (hs : l <:+ B) (hB : B.length ≤ 1000000) : AMth Try.prog 52 (rrC B l bad) [.int .i64 least, .int .i64 most] (.int .i64 (rnum least most (l, bad)).1) (rrC B (rnum least most (l, bad)).2.1 (rnum least most (l, bad)).2.2) := by
  refine AMth.mk (by simp [AV.shutL, AV.shut]) (rrC_shut _ _ _) (by simp [AV.shut]) (rrC_shut _ _ _) ?_
  refine ACalls_body Try.func52 rfl rfl ?_
  simp only [Try.ntmps52, List.length_cons, List.length_nil, Nat.reduceAdd, Nat.reduceSub, List.replicate_succ, List.replicate_zero, List.cons_append, List.nil_append]
  obtain ⟨n, l', b', hg⟩ : ∃ n l' b', rget 6 (l, bad) = (n, (l', b')) := ⟨_, _, _, rfl⟩
  have hG : AMth Try.prog 68 (rrC B l bad) [.int .i64 (6 : Int)] (.int .i64 (n : Int)) (rrC B l' b') := by
    have := refGet_mth B l bad 6 (by omega) hs hB
    rw [hg] at this
    exact this
  have hr : rnum least most (l, bad) = if b' = true ∨ (n : Int) < least ∨ most < (n : Int) then (0, (l', true)) else ((n : Int), (l', b')) := by unfold rnum; rw [hg]
  rw [hr]
  cases b' with
  | true =>
    rw [if_pos (.inl rfl)]
    refine Run ?_ trivial trivial trivial trivial trivial trivial trivial trivial trivial trivial trivial trivial
    exact ⟨.inl rfl, Int.le_refl _, _, rfl, .inl rfl⟩
  | false =>
    by_cases h1 : (n : Int) < least
    · rw [if_pos (.inr (.inl h1))]
      refine Run ?_ trivial trivial trivial trivial trivial trivial trivial trivial trivial trivial trivial trivial
      exact ⟨.inl rfl, Int.le_refl _, _, rfl, .inl rfl⟩
    · by_cases h2 : most < (n : Int)
      · rw [if_pos (.inr (.inr h2))]
        refine Run ?_ trivial trivial trivial trivial trivial trivial trivial trivial trivial trivial trivial trivial
        exact ⟨.inl rfl, Int.le_refl _, _, rfl, .inl rfl⟩
      · rw [if_neg (by simp; omega)]
        refine Run ?_ trivial trivial trivial trivial trivial trivial trivial trivial trivial trivial trivial trivial
        exact ⟨.inl rfl, Int.le_refl _, _, rfl, .inl rfl⟩
theorem rget_lt2 (s : RS) : (rget 2 s).1 < 65536 := by
  unfold rget
  split
  · simp
  · have : numOf (s.1.take 2) < 256 ^ 2 := numOf_small _ 2 (by rw [List.length_take]; omega)
    simpa using this
theorem suf_take {B l : List UInt8} (h : l <:+ B) {n : Nat} (hn : n ≤ l.length) : (B.drop (B.length - l.length)).take n = l.take n := by
  obtain ⟨p, rfl⟩ := h
  simp [List.length_append]
set_option maxHeartbeats 4000000 in
theorem refTextR_mth (B l : List UInt8) (bad : Bool) (least most : Int) (hs : l <:+ B) (hB : B.length ≤ 1000000) : AMth Try.prog 69 (rrC B l bad) [.int .i64 least, .int .i64 most] (bsA (rtext least most (l, bad)).1) (rrC B (rtext least most (l, bad)).2.1 (rtext least most (l, bad)).2.2) := by
  refine AMth.mkw (by simp [AV.shutL, AV.shut]) (rrC_shut _ _ _) (bsA_shut _) (rrC_shut _ _ _) ?_
  refine ACalls_body Try.func69 rfl rfl ?_
  simp only [Try.ntmps69, List.length_cons, List.length_nil, Nat.reduceAdd, Nat.reduceSub, List.replicate_succ, List.replicate_zero, List.cons_append, List.nil_append]
  have hs2 := suf_rget (size := 2) (s := (l, bad)) hs
  obtain ⟨n, l', b', hg⟩ : ∃ n l' b', rget 2 (l, bad) = (n, (l', b')) := ⟨_, _, _, rfl⟩
  have hG : AMth Try.prog 68 (rrC B l bad) [.int .i64 (2 : Int)] (.int .i64 (n : Int)) (rrC B l' b') := by
    have := refGet_mth B l bad 2 (by omega) hs hB
    rw [hg] at this
    exact this
  rw [hg] at hs2
  dsimp only at hs2
  have hle := hs2.length_le
  have hr : rtext least most (l, bad) = if b' = true ∨ (n : Int) < least ∨ most < (n : Int) then ([], (l', true)) else if l'.length < n then ([], (l', true)) else (l'.take n, (l'.drop n, false)) := by unfold rtext; rw [hg]
  rw [hr]
  have hn : n < 65536 := by
    have := rget_lt2 (l, bad)
    rw [hg] at this
    exact this
  cases b' with
  | true =>
    rw [if_pos (.inl rfl)]
    refine Run ?_ trivial trivial trivial trivial trivial trivial trivial trivial trivial trivial trivial trivial
    exact ⟨by simp [aone, AV.wk], Int.le_refl _, _, rfl, .inl rfl⟩
  | false =>
    by_cases h1 : (n : Int) < least
    · rw [if_pos (.inr (.inl h1))]
      refine Run ?_ trivial trivial trivial trivial trivial trivial trivial trivial trivial trivial trivial trivial
      exact ⟨by simp [aone, AV.wk], Int.le_refl _, _, rfl, .inl rfl⟩
    · by_cases h2 : most < (n : Int)
      · rw [if_pos (.inr (.inr h2))]
        refine Run ?_ trivial trivial trivial trivial trivial trivial trivial trivial trivial trivial trivial trivial
        exact ⟨by simp [aone, AV.wk], Int.le_refl _, _, rfl, .inl rfl⟩
      · rw [if_neg (by simp; omega)]
        by_cases h3 : l'.length < n
        · rw [if_pos h3]
          refine Run ?_ trivial trivial trivial trivial trivial trivial trivial trivial trivial trivial trivial trivial
          exact ⟨by simp [aone, AV.wk], Int.le_refl _, _, rfl, .inl rfl⟩
        · rw [if_neg h3]
          refine Run ?_ trivial trivial trivial trivial trivial trivial trivial trivial trivial trivial trivial trivial
          refine ⟨?_, Int.le_refl _, _, rfl, .inl ?_⟩
          · rw [aone, show ((B.length - l'.length : Nat) : Int) + (n : Int) - (n : Int) = ((B.length - l'.length : Nat) : Int) by omega, Int.toNat_natCast, show (((B.length - l'.length : Nat) : Int) + (n : Int)).toNat - (B.length - l'.length) = n by omega, suf_take hs2 (by omega)]
            exact wk_bs (by rw [List.length_take]; omega)
          · simp only [rrC, List.length_drop]
            rw [show ((B.length - l'.length : Nat) : Int) + (n : Int) = ((B.length - (l'.length - n) : Nat) : Int) by omega]
theorem refEnd_mth (B l : List UInt8) (bad : Bool) (hs : l <:+ B) (hB : B.length ≤ 1000000) : AMth Try.prog 54 (rrC B l bad) [] (.bool (!bad && l.isEmpty)) (rrC B l bad) := by
  refine AMth.mk (by simp [AV.shutL, AV.shut]) (rrC_shut _ _ _) (by simp [AV.shut]) (rrC_shut _ _ _) ?_
  refine ACalls_body Try.func54 rfl rfl ?_
  simp only [Try.ntmps54, List.length_cons, List.length_nil, Nat.reduceAdd, Nat.reduceSub, List.replicate_succ, List.replicate_zero, List.cons_append, List.nil_append]
  have hle := hs.length_le
  cases bad with
  | true =>
    refine Run ?_ trivial trivial trivial trivial trivial trivial trivial trivial trivial trivial trivial trivial
    exact ⟨.inl rfl, Int.le_refl _, _, rfl, .inl rfl⟩
  | false =>
    cases l with
    | nil =>
      refine Run ?_ trivial trivial trivial trivial trivial trivial trivial trivial trivial trivial trivial trivial
      exact ⟨.inl rfl, Int.le_refl _, _, rfl, .inl rfl⟩
    | cons x l =>
      simp only [List.length_cons] at hle
      refine Run ?_ trivial trivial trivial trivial trivial trivial trivial trivial trivial trivial trivial trivial
      exact ⟨.inl rfl, Int.le_refl _, _, rfl, .inl rfl⟩
end Go.Proofs.Ytaffpkogcpkmjaa
