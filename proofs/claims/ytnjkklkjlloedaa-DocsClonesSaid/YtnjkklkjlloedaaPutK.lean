/- code.number, text, part, Put, by the abstract machine. -/
import Derived.Test.YtnjkklkjlloedaaTy
import Derived.Test.YtnjkklkjlloedaaCode3
import Derived.Test.YtnjkklkjlloedaaRun
import Derived.KernelRfl
namespace Go.Proofs.Ytnjkklkjlloedaa
open Go.RowKit
set_option linter.unusedVariables false
set_option linter.unusedSimpArgs false
set_option maxRecDepth 10000
theorem u8_mod (m : Nat) : UInt8.ofNat (((m : Int) % 256).toNat) = UInt8.ofNat m := by
  rw [show ((m : Int) % 256).toNat = m % 256 by omega]
  apply UInt8.toNat_inj.1
  simp
theorem u8_div (m k : Nat) : UInt8.ofNat (((m : Int) / (k : Int) % 256).toNat) = UInt8.ofNat (m / k) := by
  rw [← Int.natCast_ediv, u8_mod]
/-- nil, and an error's number. -/
abbrev erA (n : Int) : AV := .tup [bsA [], .int .i64 n]
abbrev okA (l : List UInt8) : AV := .tup [bsA l, .int .i64 0]
theorem okA_shut (l : List UInt8) : (okA l).shut = true := by simp [okA, AV.shut, AV.shutL, shutL_bvA]
theorem erA_shut (n : Int) : (erA n).shut = true := by simp [erA, AV.shut, AV.shutL]
def ptR (p : Pt) : AV := if ptErr p = 0 then okA (ptB p) else erA (ptErr p)
theorem ptR_shut (p : Pt) : (ptR p).shut = true := by unfold ptR; split; exact okA_shut _; exact erA_shut _
theorem number_val (n : Int) : AVal Try.prog 94 [.int .i64 n] (ptR (.inl n)) := by
  refine AVal.mkw (by simp [AV.shutL, AV.shut]) (ptR_shut _) ?_
  refine ACalls_body Try.func94 rfl rfl ?_
  simp only [Try.ntmps94, List.length_cons, List.length_nil, Nat.reduceAdd, Nat.reduceSub, List.replicate_succ, List.replicate_zero, List.cons_append, List.nil_append]
  by_cases h0 : n < 0
  · refine Run ?_ trivial trivial trivial trivial trivial trivial trivial trivial trivial trivial trivial trivial
    unfold ptR
    rw [if_neg (by simp [ptErr]; omega), show ptErr (.inl n) = 12 by simp [ptErr]; omega]
    simp [aone, AV.wk, AV.wkL]
  · by_cases h1 : n > 1099511627776
    · refine Run ?_ trivial trivial trivial trivial trivial trivial trivial trivial trivial trivial trivial trivial
      unfold ptR
      rw [if_neg (by simp [ptErr]; omega), show ptErr (.inl n) = 12 by simp [ptErr]; omega]
      simp [aone, AV.wk, AV.wkL]
    · refine Run ?_ trivial trivial trivial trivial trivial trivial trivial trivial trivial trivial trivial trivial
      unfold ptR
      rw [if_pos (by simp [ptErr]; omega)]
      obtain ⟨m, rfl⟩ := Int.eq_ofNat_of_zero_le (show 0 ≤ n by omega)
      simp only [aone, AV.wk, AV.wkL, AV.wk_bvA, okA, bsA, ptB, numB, List.map_cons, List.map_nil, List.length_cons, List.length_nil, show ((2 : Int) ^ (40 : Int).toNat) = (1099511627776 : Nat) from rfl, show ((2 : Int) ^ (32 : Int).toNat) = (4294967296 : Nat) from rfl, show ((2 : Int) ^ (24 : Int).toNat) = (16777216 : Nat) from rfl, show ((2 : Int) ^ (16 : Int).toNat) = (65536 : Nat) from rfl, show ((2 : Int) ^ (8 : Int).toNat) = (256 : Nat) from rfl, u8_div, u8_mod, Int.toNat_natCast]
theorem text_val (l : List UInt8) (hm : l.length ≤ 1000000) : AVal Try.prog 95 [bsA l] (ptR (.inr l)) := by
  refine AVal.mkw (by simp [AV.shutL, bsA_shut]) (ptR_shut _) ?_
  refine ACalls_body Try.func95 rfl rfl ?_
  simp only [Try.ntmps95, List.length_cons, List.length_nil, Nat.reduceAdd, Nat.reduceSub, List.replicate_succ, List.replicate_zero, List.cons_append, List.nil_append]
  by_cases h0 : 4096 < l.length
  · refine Run ?_ trivial trivial trivial trivial trivial trivial trivial trivial trivial trivial trivial trivial
    unfold ptR
    rw [if_neg (by simp [ptErr]; omega), show ptErr (.inr l) = 11 by simp [ptErr]; omega]
    simp [aone, AV.wk, AV.wkL]
  · refine Run ?_ trivial trivial trivial trivial trivial trivial trivial trivial trivial trivial trivial trivial
    unfold ptR
    rw [if_pos (by simp [ptErr]; omega)]
    simp only [aone, AV.wk, AV.wkL, AV.wk_bvA, AV.wkL_bvA, okA, bsA, ptB, textB, List.map_cons, List.map_nil, List.length_cons, List.length_nil, show ((2 : Int) ^ (8 : Int).toNat) = (256 : Nat) from rfl, u8_div, u8_mod, List.cons_append, List.nil_append, Nat.zero_add]
    rw [show 2 + l.length = l.length + 1 + 1 by omega]
/-- A part as an interface's value. -/
def ptA : Pt → AV
  | .inl n => .iface 3 (.int .i64 n)
  | .inr l => .iface 27 (bsA l)
theorem ptA_shut (p : Pt) : (ptA p).shut = true := by cases p <;> simp [ptA, AV.shut, shutL_bvA]
theorem ptAs_shut : ∀ ps : List Pt, AV.shutL (ps.map ptA) = true
  | [] => rfl
  | p :: ps => by simp [AV.shutL, ptA_shut, ptAs_shut ps]
theorem ptR_tup (p : Pt) : ∃ l e, ptR p = .tup [bsA l, .int .i64 e] := by unfold ptR; split; exact ⟨_, _, rfl⟩; exact ⟨_, _, rfl⟩
theorem part_val (p : Pt) (hm : ∀ l, p = .inr l → l.length ≤ 1000000) : AVal Try.prog 89 [ptA p] (ptR p) := by
  refine AVal.mkw (by simp [AV.shutL, ptA_shut]) (ptR_shut _) ?_
  refine ACalls_body Try.func89 rfl rfl ?_
  simp only [Try.ntmps89, List.length_cons, List.length_nil, Nat.reduceAdd, Nat.reduceSub, List.replicate_succ, List.replicate_zero, List.cons_append, List.nil_append]
  obtain ⟨l, e, hp⟩ := ptR_tup p
  cases p with
  | inl n =>
    have h1 := number_val n
    rw [hp] at h1 ⊢
    unfold ptA
    refine Run ?_ trivial trivial trivial trivial trivial trivial trivial trivial trivial trivial trivial trivial
    simp [aone, AV.wk, AV.wkL, AV.wkL_bvA]
  | inr b =>
    have h1 := text_val b (hm b rfl)
    rw [hp] at h1 ⊢
    unfold ptA
    refine Run ?_ trivial trivial trivial trivial trivial trivial trivial trivial trivial trivial trivial trivial
    simp [aone, AV.wk, AV.wkL, AV.wkL_bvA]
theorem part_str (b : List UInt8) (hm : b.length ≤ 1000000) : AVal Try.prog 89 [.iface 9 (.str b)] (ptR (.inr b)) := by
  refine AVal.mkw (by simp [AV.shutL, AV.shut]) (ptR_shut _) ?_
  refine ACalls_body Try.func89 rfl rfl ?_
  simp only [Try.ntmps89, List.length_cons, List.length_nil, Nat.reduceAdd, Nat.reduceSub, List.replicate_succ, List.replicate_zero, List.cons_append, List.nil_append]
  obtain ⟨l, e, hp⟩ := ptR_tup (.inr b)
  have h1 := text_val b hm
  rw [hp] at h1 ⊢
  refine Run ?_ trivial trivial trivial trivial trivial trivial trivial trivial trivial trivial trivial trivial
  simp [aone, AV.wk, AV.wkL, AV.wkL_bvA]
def putR (ps : List Pt) : AV := if putErr ps = 0 then okA (putB ps) else erA (putErr ps)
theorem putR_shut (ps : List Pt) : (putR ps).shut = true := by unfold putR; split; exact okA_shut _; exact erA_shut _
theorem put_val0 (ps : List Pt) (hn : ps.length ≤ 1000) (hm : ∀ l, Sum.inr l ∈ ps → l.length ≤ 1000000) : AVal Try.prog 72 [.sl .none (ps.map ptA) ps.length] (putR ps) := by
  refine AVal.mkw (by unfold AV.shutL AV.shut; simp [ptAs_shut, AV.shutL]) (putR_shut _) ?_
  refine ACalls_body Try.func72 rfl rfl ?_
  simp only [Try.ntmps72, List.length_cons, List.length_nil, Nat.reduceAdd, Nat.reduceSub, List.replicate_succ, List.replicate_zero, List.cons_append, List.nil_append]
  refine Run ?_ trivial trivial trivial trivial trivial trivial trivial trivial trivial trivial trivial trivial
  refine AWP_adopt 4 1 rfl (by simp only [setF]; rfl) ?_
  refine AWP_loopS [2, 3, 4, 6, 7, 8, 9, 10, 11, 12, 13, 14, 15, 16, 17, 18, 19, 20, 21, 22, 23, 24, 25, 26] (N := Nat × Nat × List AV × List AV) (fun ⟨k, n, cs, js⟩ => [js.getD 0 .und, js.getD 1 .und, .sl (.tok 0 n 1) cs n, js.getD 2 .und, js.getD 3 .und, js.getD 4 .und, .sl .none (ps.map ptA) ps.length, .int .i64 (ps.length : Int), .int .i64 (k : Int), js.getD 5 .und, js.getD 6 .und, js.getD 7 .und, js.getD 8 .und, js.getD 9 .und, js.getD 10 .und, js.getD 11 .und, js.getD 12 .und, js.getD 13 .und, js.getD 14 .und, js.getD 15 .und, js.getD 16 .und, js.getD 17 .und, js.getD 18 .und, js.getD 19 .und]) (fun ⟨k, n, cs, js⟩ => ⟨[], [(0, n)], 1⟩) (fun ⟨k, n, cs, js⟩ => k ≤ ps.length ∧ (∀ p ∈ ps.take k, ptErr p = 0) ∧ cs = (putB (ps.take k)).map bvA ∧ n = (putB (ps.take k)).length) (fun ⟨k, n, cs, js⟩ => ps.length - k) ⟨0, 0, [], [_, _, _, _, _, _, _, _, _, _, _, _, _, _, _, _, _, _, _, _]⟩ rfl rfl ?hi0 ?_
  rotate_left
  rintro ⟨k, n, cs, js⟩ sl_ hs hi
  simp only [setsF, setF, Option.some.injEq] at hs
  subst hs
  case hi0 => exact ⟨by omega, by simp, rfl, rfl⟩
  obtain ⟨hk, hn, hcs, hnn⟩ := hi
  by_cases hlt : k < ps.length
  · have hel : ps[k]? = some ps[k] := List.getElem?_eq_getElem hlt
    have hc : (ps.map ptA)[k]? = some (ptA ps[k]) := by rw [List.getElem?_map, hel]; rfl
    have h1 := part_val ps[k] (fun l hl => hm l (by rw [← hl]; exact List.getElem_mem hlt))
    have hs1 : ps.take (k + 1) = ps.take k ++ [ps[k]] := by rw [List.take_add_one, hel]; rfl
    by_cases he : ptErr ps[k] = 0
    · have hp : ptR ps[k] = okA (ptB ps[k]) := by unfold ptR; rw [if_pos he]
      rw [hp] at h1
      have hle := putB_le (ps.take k) hn
      have hle2 := ptB_le ps[k] he
      rw [List.length_take] at hle
      refine Run ?_ trivial trivial trivial trivial trivial trivial trivial trivial trivial trivial trivial trivial
      refine ALoopQ_normal ⟨k + 1, _, _, [_, _, _, _, _, _, _, _, _, _, _, _, _, _, _, _, _, _, _, _]⟩ rfl rfl ?hi1 ?hm1
      case hi1 =>
        refine ⟨by omega, fun p hp => ?_, ?_, ?_⟩
        · rw [hs1] at hp
          rcases List.mem_append.1 hp with hp | hp
          · exact hn p hp
          · rw [List.mem_singleton.1 hp]; exact he
        · rw [hs1, putB_snoc, List.map_append, ← hcs]
        · rw [hs1, putB_snoc, List.length_append, ← hnn]
      case hm1 => simp only; omega
    · have hp : ptR ps[k] = erA (ptErr ps[k]) := by unfold ptR; rw [if_neg he]
      rw [hp] at h1
      refine Run ?_ trivial trivial trivial trivial trivial trivial trivial trivial trivial trivial trivial trivial
      have := putErr_first ps k ps[k] hel hn he
      unfold putR
      rw [if_neg (by rw [this]; exact he), this]
      simp [aone, AV.wk, AV.wkL]
  · obtain rfl : k = ps.length := by omega
    rw [List.take_length] at hn hcs hnn
    refine Run ?_ trivial trivial trivial trivial trivial trivial trivial trivial trivial trivial trivial trivial
    unfold putR
    rw [if_pos ((putErr_ok ps).2 hn), hcs, hnn]
    simp [aone, AV.wk, AV.wkL, AV.wkL_bvA]
theorem put_val (ps : List Pt) (own : AOwn) (n : Nat) (hl : ps.length = n) (hn : n ≤ 1000) (hm : ∀ l, Sum.inr l ∈ ps → l.length ≤ 1000000) : AVal Try.prog 72 [.sl own (ps.map ptA) n] (putR ps) := by subst hl; exact (put_val0 ps hn hm).own own
end Go.Proofs.Ytnjkklkjlloedaa
