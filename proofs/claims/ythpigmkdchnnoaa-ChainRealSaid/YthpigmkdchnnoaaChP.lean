/- Law 12: chains, step by step. -/
import Derived.Test.YthpigmkdchnnoaaChG
import Derived.Test.YthpigmkdchnnoaaArgA
namespace Go.Proofs.Ythpigmkdchnnoaa
open Go.RowKit
set_option linter.unusedVariables false
set_option linter.unusedSimpArgs false
set_option maxRecDepth 10000
theorem apE_cases (ls : List (List UInt8)) (x : List UInt8) : apE ls x = 11 ∨ apE ls x = 33 ∨ apE ls x = 0 := by unfold apE; split; exact .inl rfl; split; exact .inr (.inl rfl); exact .inr (.inr rfl)
theorem apE_zero {ls : List (List UInt8)} {x : List UInt8} (h : apE ls x = 0) : 1 ≤ x.length ∧ x.length ≤ 4096 ∧ ls.length ≠ 64 := by
  unfold apE at h
  split at h
  · omega
  · split at h
    · omega
    · omega
theorem apE_of {ls : List (List UInt8)} {x : List UInt8} (h1 : 1 ≤ x.length) (h2 : x.length ≤ 4096) : apE ls x = if ls.length = 64 then 33 else 0 := by
  unfold apE
  rw [if_neg (by omega)]
theorem sumX_le (xs : List (List UInt8)) (x : List UInt8) : (sumX xs x).length ≤ xs.length + 1 := by unfold sumX; split <;> simp
theorem apX_le (ls ss xs : List (List UInt8)) (x : List UInt8) : (apX ls ss xs x).length ≤ xs.length + 1 := by
  unfold apX
  split
  · exact sumX_le _ _
  · omega
theorem ChOk.step {ls ss xs : List (List UInt8)} (h : ChOk ls ss xs) (x : List UInt8) (hx : xs.length + 1 ≤ 1000000) : ChOk (apL ls x) (apS ls ss xs x) (apX ls ss xs x) := by
  have hle := apX_le ls ss xs x
  unfold apL apS
  by_cases hE : apE ls x = 0
  · obtain ⟨h1, h2, h3⟩ := apE_zero hE
    rw [if_pos hE, if_pos hE]
    refine ⟨by simp [h.len], fun y hy => ?_, ?_, fun y hy => ?_, by omega⟩
    · rcases List.mem_append.1 hy with hy | hy
      · exact h.sums y hy
      · rw [List.mem_singleton.1 hy]; rfl
    · have := h.most
      simp only [List.length_append, List.length_cons, List.length_nil]
      omega
    · rcases List.mem_append.1 hy with hy | hy
      · exact h.texts y hy
      · rw [List.mem_singleton.1 hy]; exact ⟨h1, h2⟩
  · rw [if_neg hE, if_neg hE]
    exact ⟨h.len, h.sums, h.most, h.texts, by omega⟩
theorem apL_len {ls : List (List UInt8)} {x : List UInt8} (h : apE ls x = 0) : (apL ls x).length = ls.length + 1 := by unfold apL; rw [if_pos h]; simp
theorem append_at {ls ss xs : List (List UInt8)} {x : List UInt8} (n : Int) (h : ChOk ls ss xs) (hx : x.length ≤ 1000000) (hE : apE ls x = n) (c s a b l m : Int) : ASys Try.prog 15 [.ptr c 0, bsA x] (.int .i64 n)
    [(c, chC ls ss s a b, chC (apL ls x) (apS ls ss xs x) s a b), (s, suX xs l m, suX (apX ls ss xs x) l m)] [(a, lnT ls, lnT (apL ls x)), (b, lnT ss, lnT (apS ls ss xs x)), (l, suL xs, suL (apX ls ss xs x)), (m, suM xs, suM (apX ls ss xs x))] := hE ▸ append_sys ls ss xs x h hx c s a b l m
theorem append_no {ls ss xs : List (List UInt8)} {x : List UInt8} (n : Int) (h : ChOk ls ss xs) (hx : x.length ≤ 1000000) (hE : apE ls x = n) (hn : n ≠ 0) (c s a b l m : Int) : ASys Try.prog 15 [.ptr c 0, bsA x] (.int .i64 n)
    [(c, chC ls ss s a b, chC ls ss s a b), (s, suX xs l m, suX xs l m)] [(a, lnT ls, lnT ls), (b, lnT ss, lnT ss), (l, suL xs, suL xs), (m, suM xs, suM xs)] := by
  have := append_at n h hx hE c s a b l m
  unfold apL apS apX at this
  rw [hE, if_neg hn, if_neg hn, if_neg hn] at this
  exact this
theorem chkN_in {ss : List (List UInt8)} {i : Nat} {y : List UInt8} (h : ss[i]? = some y) : chkN ss (i : Int) y = 0 := by
  have hl := (List.getElem?_eq_some_iff.1 h).1
  unfold chkN
  rw [if_neg (by omega), if_neg (by omega), Int.toNat_natCast, List.getD_eq_getElem?_getD, h, Option.getD_some, if_pos rfl]
theorem atR_at {ss : List (List UInt8)} {i : Nat} {y : List UInt8} (h : ss[i]? = some y) : atR ss (i : Int) = .tup [hdA (i : Int) y, .bool true] := by
  rw [atR_in (List.getElem?_eq_some_iff.1 h).1, List.getD_eq_getElem?_getD, h, Option.getD_some]
theorem lkR_at {ls : List (List UInt8)} {i : Int} (h0 : 0 ≤ i) (h1 : i < ls.length) : lkR ls i = .tup [bsA (ls.getD i.toNat []), .bool true] := by
  unfold lkR
  rw [if_neg (by omega)]
theorem atR_int {ss : List (List UInt8)} {i : Int} (h0 : 0 ≤ i) (h1 : i < ss.length) : atR ss i = .tup [hdA i (ss.getD i.toNat []), .bool true] := by
  unfold atR
  rw [if_neg (by omega)]
theorem atR_off {ss : List (List UInt8)} {i : Int} (h : i < 0 ∨ (ss.length : Int) ≤ i) : atR ss i = .tup [hdA 0 [], .bool false] := by
  unfold atR
  rw [if_pos h]
theorem lkR_off {ss : List (List UInt8)} {i : Int} (h : i < 0 ∨ (ss.length : Int) ≤ i) : lkR ss i = .tup [bsA [], .bool false] := by
  unfold lkR
  rw [if_pos h]
theorem chkN_int {ss : List (List UInt8)} {i : Int} (h0 : 0 ≤ i) (h1 : i < ss.length) : chkN ss i (ss.getD i.toNat []) = 0 := by
  unfold chkN
  rw [if_neg (by omega), if_neg (by omega), if_pos rfl]
theorem row_at {ss : List (List UInt8)} {i : Int} (h0 : 0 ≤ i) (h1 : i < ss.length) : (ss.map bsA)[i.toNat * 1]? = some (bsA (ss.getD i.toNat [])) := by
  rw [Nat.mul_one, List.getElem?_map, List.getD_eq_getElem?_getD, List.getElem?_eq_getElem (show i.toNat < ss.length by omega)]
  rfl
theorem apX_texts {ls ss xs : List (List UInt8)} {x : List UInt8} (h : ChOk ls ss xs) (hx : x.length ≤ 4096) (hxs : ∀ y ∈ xs, y.length ≤ 1000000) : ∀ y ∈ apX ls ss xs x, y.length ≤ 1000000 := by
  intro y hy
  unfold apX at hy
  split at hy
  · unfold sumX at hy
    split at hy
    · exact hxs y hy
    · rcases List.mem_append.1 hy with hy | hy
      · exact hxs y hy
      · rw [List.mem_singleton.1 hy]
        unfold apT
        have h1 : (ss.getD ls.length []).length = 32 := h.sums _ (by rw [List.getD_eq_getElem?_getD, List.getElem?_eq_getElem (show ls.length < ss.length by have := h.len; omega)]; exact List.getElem_mem _)
        rw [List.length_append]
        omega
  · exact hxs y hy
theorem apL_le (ls : List (List UInt8)) (x : List UInt8) : (apL ls x).length ≤ ls.length + 1 := by
  unfold apL
  split
  · simp
  · omega
theorem ChOk.ini (n : Nat) (xs : List (List UInt8)) (hx : xs.length ≤ 1000000) (k : Nat) : ChOk [] [signB 72 k] xs := ⟨rfl, fun y hy => by rw [List.mem_singleton.1 hy]; rfl, by simp, (fun y hy => by cases hy), hx⟩
def smallL (l : List (List UInt8)) : Prop := (∀ b ∈ l, b.length ≤ 300) ∧ l.length ≤ 70
instance (l : List (List UInt8)) : Decidable (smallL l) := by unfold smallL; infer_instance
theorem small_val (l : List (List UInt8)) (hm : l.length ≤ 9223372036854775807) : AVal Try.prog 10 [lkA l] (.bool (decide (smallL l))) := by
  refine AVal.mkw (by simp only [AV.shutL, lkA_shut, Bool.and_self]) (by simp [AV.shut]) ?_
  refine ACalls_body Try.func10 rfl rfl ?_
  simp only [Try.ntmps10, List.length_cons, List.length_nil, Nat.reduceAdd, Nat.reduceSub, List.replicate_succ, List.replicate_zero, List.cons_append, List.nil_append]
  refine Run ?_ trivial trivial trivial trivial trivial trivial trivial trivial trivial trivial trivial trivial
  refine AWP_loopS [2, 4, 5, 6, 7, 8, 9, 10, 11, 12, 13, 14] (N := Nat × List AV) (fun ⟨k, js⟩ => [js.getD 0 .und, js.getD 1 .und, lkA l, .int .i64 (l.length : Int), .int .i64 (k : Int), js.getD 2 .und, js.getD 3 .und, js.getD 4 .und, js.getD 5 .und, js.getD 6 .und, js.getD 7 .und, js.getD 8 .und]) (fun ⟨k, js⟩ => ⟨[], [], 0⟩) (fun ⟨k, js⟩ => k ≤ l.length ∧ ∀ b ∈ l.take k, b.length ≤ 300) (fun ⟨k, js⟩ => l.length - k) ⟨0, [_, _, _, _, _, _, _, _, _]⟩ rfl rfl ?hi0 ?_
  rotate_left
  rintro ⟨k, js⟩ sl_ hs hi
  simp only [setsF, setF, Option.some.injEq] at hs
  subst hs
  case hi0 => exact ⟨by omega, by simp⟩
  obtain ⟨hk, hn⟩ := hi
  by_cases hlt : k < l.length
  · have hel : l[k]? = some l[k] := List.getElem?_eq_getElem hlt
    have hc : (l.map bsA)[k]? = some (bsA l[k]) := by rw [List.getElem?_map, hel]; rfl
    by_cases hb : 300 < l[k].length
    · rw [decide_eq_false (fun h => by have := h.1 _ (List.getElem_mem hlt); omega)]
      refine Run ?_ trivial trivial trivial trivial trivial trivial trivial trivial trivial trivial trivial trivial
      rfl
    · refine Run ?_ trivial trivial trivial trivial trivial trivial trivial trivial trivial trivial trivial trivial
      refine ALoopQ_normal ⟨k + 1, [_, _, _, _, _, _, _, _, _]⟩ rfl rfl ?hi1 ?hm1
      case hi1 =>
        refine ⟨by omega, fun b hb' => ?_⟩
        rw [List.take_add_one, hel] at hb'
        rcases List.mem_append.1 hb' with h | h
        · exact hn b h
        · rw [show b = l[k] by simpa using h]; omega
      case hm1 => simp only; omega
  · obtain rfl : k = l.length := by omega
    rw [List.take_length] at hn
    by_cases h7 : l.length ≤ 70
    · rw [decide_eq_true ⟨hn, h7⟩]
      refine Run ?_ trivial trivial trivial trivial trivial trivial trivial trivial trivial trivial trivial trivial
      simp [aone, AV.wk]
    · rw [decide_eq_false (fun h => h7 h.2)]
      refine Run ?_ trivial trivial trivial trivial trivial trivial trivial trivial trivial trivial trivial trivial
      simp [aone, AV.wk]
end Go.Proofs.Ythpigmkdchnnoaa
