/- suite: a sign's bytes, parts joined; the reference's sign. -/
import Derived.Test.YthpigmkdchnnoaaPutK
import Derived.Test.YthpigmkdchnnoaaBuf2
namespace Go.Proofs.Ythpigmkdchnnoaa
open Go.RowKit
set_option linter.unusedVariables false
set_option linter.unusedSimpArgs false
set_option maxRecDepth 10000
/-- A number in eight bytes. -/
def eightB (n : Nat) : List UInt8 := [UInt8.ofNat (n / 72057594037927936), UInt8.ofNat (n / 281474976710656), UInt8.ofNat (n / 1099511627776), UInt8.ofNat (n / 4294967296), UInt8.ofNat (n / 16777216), UInt8.ofNat (n / 65536), UInt8.ofNat (n / 256), UInt8.ofNat n]
/-- A sign's bytes. -/
def signB (c : UInt8) (n : Nat) : List UInt8 := [83, c, 0, 0, 0, 0, 0, 0, 0, 0, 0, 0, 0, 0, 0, 0, 0, 0, 0, 0, 0, 0, 0, 0] ++ eightB n
theorem signB_len (c : UInt8) (n : Nat) : (signB c n).length = 32 := rfl
theorem shr_nat (m : Nat) (j : Int) (q : Nat) (h : (2 : Int) ^ j.toNat = (q : Int)) : (m : Int) / (2 : Int) ^ j.toNat = ((m / q : Nat) : Int) := by rw [h, Int.natCast_ediv]
set_option maxHeartbeats 1000000 in
theorem signed_val (c : UInt8) (m : Nat) (hm : m ≤ 1000000000000000) : AVal Try.prog 36 [bvA c, .int .i64 (m : Int)] (.sl .full ((signB c m).map bvA) 32) := by
  refine AVal.mkRow (by simp [AV.shutL, AV.shut, bvA]) (shutL_bvA _) (by omega) ?_
  refine ACalls_body Try.func36 rfl rfl ?_
  simp only [Try.ntmps36, List.length_cons, List.length_nil, Nat.reduceAdd, Nat.reduceSub, List.replicate_succ, List.replicate_zero, List.cons_append, List.nil_append]
  rw [show bvA c = .int .u8 (c.toNat : Int) from rfl]
  refine Run ?_ trivial trivial (⟨Try.func48, rfl, rfl⟩ : Inl Try.prog 48 _ _ _) trivial trivial trivial trivial trivial trivial trivial trivial trivial
  with_reducible refine AWP_loop_n 9 ?_
  refine Run ?_ trivial trivial trivial trivial trivial trivial trivial trivial trivial trivial trivial trivial
  refine ⟨_, rfl, ?_⟩
  simp only [alook, if_true, signB, eightB, List.cons_append, List.nil_append, List.map_cons, List.map_nil]
  rw [show ((2 : Int) ^ (8 * (8 - 1) : Int).toNat) = (72057594037927936 : Nat) from rfl, show ((2 : Int) ^ (8 * (7 - 1) : Int).toNat) = (281474976710656 : Nat) from rfl, show ((2 : Int) ^ (8 * (6 - 1) : Int).toNat) = (1099511627776 : Nat) from rfl, show ((2 : Int) ^ (8 * (5 - 1) : Int).toNat) = (4294967296 : Nat) from rfl, show ((2 : Int) ^ (8 * (4 - 1) : Int).toNat) = (16777216 : Nat) from rfl, show ((2 : Int) ^ (8 * (3 - 1) : Int).toNat) = (65536 : Nat) from rfl, show ((2 : Int) ^ (8 * (2 - 1) : Int).toNat) = (256 : Nat) from rfl, show ((2 : Int) ^ (8 * (1 - 1) : Int).toNat) = (1 : Nat) from rfl]
  simp only [u8_div, Nat.div_one]
  rfl
theorem u8_mm8 (m : Nat) : UInt8.ofNat (((m : Int) % 256 % 256).toNat) = UInt8.ofNat m := by
  rw [show ((m : Int) % 256 % 256).toNat = m % 256 by omega]
  apply UInt8.toNat_inj.1
  simp
set_option maxHeartbeats 1000000 in
theorem refSign_val (c : UInt8) (m : Nat) (hm : m ≤ 1000000000000000) : AVal Try.prog 41 [.int .i64 (c.toNat : Int), .int .i64 (m : Int)] (.sl .full ((signB c m).map bvA) 32) := by
  refine AVal.mkRow (by simp [AV.shutL, AV.shut, bvA]) (shutL_bvA _) (by omega) ?_
  refine ACalls_body Try.func41 rfl rfl ?_
  simp only [Try.ntmps41, List.length_cons, List.length_nil, Nat.reduceAdd, Nat.reduceSub, List.replicate_succ, List.replicate_zero, List.cons_append, List.nil_append]
  have hc := UInt8.toNat_lt c
  refine Run ?_ trivial trivial (⟨Try.func52, rfl, rfl⟩ : Inl Try.prog 52 _ _ _) trivial trivial trivial trivial trivial trivial trivial trivial trivial
  with_reducible refine AWP_loop_n 9 ?_
  refine Run ?_ trivial trivial trivial trivial trivial trivial trivial trivial trivial trivial trivial trivial
  refine ⟨_, rfl, ?_⟩
  simp only [alook, if_true, signB, eightB, List.cons_append, List.nil_append, List.map_cons, List.map_nil]
  have e : ∀ (a b : Nat), ((m / a : Nat) : Int) / (b : Int) = ((m / (a * b) : Nat) : Int) := fun a b => by rw [← Int.natCast_ediv, Nat.div_div_eq_div_mul]
  have e1 : (m : Int) / 256 = ((m / 256 : Nat) : Int) := by omega
  have e2 : (m : Int) / 256 / 256 = ((m / 65536 : Nat) : Int) := by rw [e1]; exact e 256 256
  have e3 : (m : Int) / 256 / 256 / 256 = ((m / 16777216 : Nat) : Int) := by rw [e2]; exact e 65536 256
  have e4 : (m : Int) / 256 / 256 / 256 / 256 = ((m / 4294967296 : Nat) : Int) := by rw [e3]; exact e 16777216 256
  have e5 : (m : Int) / 256 / 256 / 256 / 256 / 256 = ((m / 1099511627776 : Nat) : Int) := by rw [e4]; exact e 4294967296 256
  have e6 : (m : Int) / 256 / 256 / 256 / 256 / 256 / 256 = ((m / 281474976710656 : Nat) : Int) := by rw [e5]; exact e 1099511627776 256
  have e7 : (m : Int) / 256 / 256 / 256 / 256 / 256 / 256 / 256 = ((m / 72057594037927936 : Nat) : Int) := by rw [e6]; exact e 281474976710656 256
  rw [e7, e6, e5, e4, e3, e2, e1]
  simp only [u8_mm8]
  rw [show ((c.toNat : Int) % 256).toNat = c.toNat by omega, UInt8.ofNat_toNat]
  rfl
theorem joined_val (ls : List (List UInt8)) (hn : ls.length ≤ 1000) (hs : ∀ l ∈ ls, l.length ≤ 1000000) : AVal Try.prog 38 [lkA ls] (.str ls.flatten) := by
  refine AVal.mkw (by simp only [AV.shutL, lkA_shut, Bool.and_self]) (by simp [AV.shut]) ?_
  refine ACalls_body Try.func38 rfl rfl ?_
  simp only [Try.ntmps38, List.length_cons, List.length_nil, Nat.reduceAdd, Nat.reduceSub, List.replicate_succ, List.replicate_zero, List.cons_append, List.nil_append]
  refine Run ?_ trivial trivial trivial trivial trivial trivial trivial trivial trivial trivial trivial trivial
  refine AWP_adopt 3 1 rfl (by simp only [setF]; rfl) ?_
  refine AWP_loopS [3, 5, 6, 7, 8, 9, 10, 11, 12, 13, 14, 15] (N := Nat × Nat × List AV × List AV) (fun ⟨k, n, cs, js⟩ => [.sl (.tok 0 n 1) cs n, js.getD 0 .und, lkA ls, .int .i64 (ls.length : Int), .int .i64 (k : Int), js.getD 1 .und, js.getD 2 .und, js.getD 3 .und, js.getD 4 .und, js.getD 5 .und, js.getD 6 .und, js.getD 7 .und]) (fun ⟨k, n, cs, js⟩ => ⟨[], [(0, n)], 1⟩) (fun ⟨k, n, cs, js⟩ => k ≤ ls.length ∧ cs = (ls.take k).flatten.map bvA ∧ n = (ls.take k).flatten.length ∧ n ≤ k * 1000000) (fun ⟨k, n, cs, js⟩ => ls.length - k) ⟨0, 0, [], [_, _, _, _, _, _, _, _]⟩ rfl rfl ?hi0 ?_
  rotate_left
  rintro ⟨k, n, cs, js⟩ sl_ hs hi
  simp only [setsF, setF, Option.some.injEq] at hs
  subst hs
  case hi0 => exact ⟨by omega, by simp, rfl, by omega⟩
  obtain ⟨hk, hx, hl, hb⟩ := hi
  by_cases hlt : k < ls.length
  · have hel : ls[k]? = some ls[k] := List.getElem?_eq_getElem hlt
    have hc : (ls.map bsA)[k]? = some (bsA ls[k]) := by rw [List.getElem?_map, hel]; rfl
    have hsz := hs ls[k] (List.getElem_mem hlt)
    have hs1 : (ls.take (k + 1)).flatten = (ls.take k).flatten ++ ls[k] := by rw [List.take_add_one, hel]; simp only [Option.toList_some, List.flatten_append, List.flatten_cons, List.flatten_nil, List.append_nil]
    refine Run ?_ trivial trivial trivial trivial trivial trivial trivial trivial trivial trivial trivial trivial
    refine ALoopQ_normal ⟨k + 1, _, _, [_, _, _, _, _, _, _, _]⟩ rfl rfl ?hi1 ?hm1
    case hi1 => exact ⟨by omega, by rw [hs1, List.map_append, hx], by rw [hs1, List.length_append, hl], by omega⟩
    case hm1 => simp only; omega
  · obtain rfl : k = ls.length := by omega
    rw [List.take_length] at hx hl
    subst hx hl
    refine Run ?_ trivial trivial trivial trivial trivial trivial trivial trivial trivial trivial trivial trivial
    rfl
end Go.Proofs.Ythpigmkdchnnoaa
