/- policy: members, Rights, Right, by the abstract machine. -/
import Derived.Test.YtaffpkogcpkmjaaEnC
import Derived.Test.YtaffpkogcpkmjaaBuf3
namespace Go.Proofs.Ytaffpkogcpkmjaa
open Go.RowKit
set_option linter.unusedVariables false
set_option linter.unusedSimpArgs false
set_option maxRecDepth 10000
/-- A member. -/
structure Mb where
  who : Int
  rights : Int
deriving DecidableEq
def mbC (m : Mb) : List AV := [.int .i64 m.who, .int .i64 m.rights]
def mbCs (ms : List Mb) : List AV := ms.flatMap mbC
abbrev mbA (ms : List Mb) : AV := .sl .none (mbCs ms) ms.length
theorem mbCs_shut : ∀ ms : List Mb, AV.shutL (mbCs ms) = true
  | [] => rfl
  | w :: ms => by simp only [mbCs, List.flatMap_cons, mbC, List.cons_append, List.nil_append, AV.shutL, AV.shut, Bool.true_and]; exact mbCs_shut ms
theorem mbCs_ones : ∀ ms : List Mb, (mbCs ms).all AV.one = true
  | [] => rfl
  | w :: ms => by simp only [mbCs, List.flatMap_cons, mbC, List.cons_append, List.nil_append, List.all_cons, AV.one, Bool.true_and]; exact mbCs_ones ms
theorem mbA_shut (ms : List Mb) : (mbA ms).shut = true := by unfold mbA AV.shut; exact mbCs_shut ms
theorem mbCs_wk : ∀ ms : List Mb, AV.wkL (mbCs ms) = mbCs ms
  | [] => rfl
  | w :: ms => by
    have := mbCs_wk ms
    simp only [mbCs] at this
    simp only [mbCs, List.flatMap_cons, mbC, List.cons_append, List.nil_append, AV.wkL, AV.wk, this]
theorem mbCs_len : ∀ ms : List Mb, (mbCs ms).length = ms.length * 2
  | [] => rfl
  | w :: ms => by have := mbCs_len ms; simp only [mbCs] at this; simp only [mbCs, List.flatMap_cons, List.length_append, mbC, List.length_cons, List.length_nil, this]; omega
theorem mbCs_app (a b : List Mb) : mbCs (a ++ b) = mbCs a ++ mbCs b := by simp [mbCs]
theorem mbCs_drop : ∀ (ms : List Mb) (k : Nat), (mbCs ms).drop (k * 2) = mbCs (ms.drop k)
  | ms, 0 => by simp
  | [], k + 1 => by simp [mbCs]
  | w :: ms, k + 1 => by
    rw [show (k + 1) * 2 = k * 2 + 1 + 1 by omega, List.drop_succ_cons]
    exact mbCs_drop ms k
theorem mbCs_take : ∀ (ms : List Mb) (k : Nat), (mbCs ms).take (k * 2) = mbCs (ms.take k)
  | ms, 0 => by simp [mbCs]
  | [], k + 1 => by simp [mbCs]
  | w :: ms, k + 1 => by
    rw [show (k + 1) * 2 = k * 2 + 1 + 1 by omega, List.take_succ_cons]
    show _ :: (_ :: mbCs ms).take (k * 2 + 1) = _
    rw [List.take_succ_cons, mbCs_take ms k]
    rfl
theorem mbCs_load {ms : List Mb} {k : Nat} {w : Mb} (h : ms[k]? = some w) : aload true 2 (mbCs ms) (k * 2) = some (.agg [.int .i64 w.who, .int .i64 w.rights]) := by
  obtain ⟨hk, rfl⟩ := List.getElem?_eq_some_iff.1 h
  simp only [aload, if_true]
  rw [if_pos (by rw [mbCs_len]; omega), mbCs_drop, List.drop_eq_getElem_cons hk]
  rfl
theorem mbCs_who {ms : List Mb} {k : Nat} {w : Mb} (h : ms[k]? = some w) : (mbCs ms)[k * 2]? = some (.int .i64 w.who) := by
  obtain ⟨hk, rfl⟩ := List.getElem?_eq_some_iff.1 h
  have : (mbCs ms)[k * 2]? = ((mbCs ms).drop (k * 2))[0]? := by simp
  rw [this, mbCs_drop, List.drop_eq_getElem_cons hk]
  rfl
/-- A policy. -/
structure Po where
  founder : Int
  epoch : Int
  mem : List Mb
deriving DecidableEq
abbrev poC (p : Po) : List AV := [.int .i64 p.founder, .int .i64 p.epoch, mbA p.mem]
abbrev poA (p : Po) : AV := .agg (poC p)
theorem poC_shut (p : Po) : AV.shutL (poC p) = true := by simp only [poC, AV.shutL, AV.shut, mbCs_shut, Bool.and_self]
theorem poA_shut (p : Po) : (poA p).shut = true := by unfold poA AV.shut; exact poC_shut p
/-- What somebody may do. -/
def rightsOf : List Mb → Int → Int
  | [], _ => 0
  | m :: r, w => if m.who = w then m.rights else rightsOf r w
set_option maxHeartbeats 4000000 in
theorem rights_val (p : Po) (w : Int) (hm : p.mem.length ≤ 9223372036854775807) : AVal Try.prog 35 [poA p, .int .i64 w] (.int .i64 (rightsOf p.mem w)) := by
  refine AVal.mkw (by simp only [AV.shutL, poA_shut, AV.shut, Bool.and_self]; simp [mbCs_shut]) (by simp [AV.shut]) ?_
  refine ACalls_body Try.func35 rfl rfl ?_
  simp only [Try.ntmps35, List.length_cons, List.length_nil, Nat.reduceAdd, Nat.reduceSub, List.replicate_succ, List.replicate_zero, List.cons_append, List.nil_append]
  refine Run ?_ trivial trivial trivial trivial trivial trivial trivial trivial trivial trivial trivial trivial
  refine AWP_loopW [4, 6, 8, 9, 10, 11, 12, 13, 14, 15, 16, 17, 18, 19, 20] (N := Nat × Int × List AV) (fun ⟨k, nx, js⟩ => [js.getD 0 .und, js.getD 1 .und, mbA p.mem, .int .i64 (p.mem.length : Int), .int .i64 (k : Int), js.getD 2 .und, js.getD 3 .und, js.getD 4 .und, js.getD 5 .und, js.getD 6 .und, js.getD 7 .und, js.getD 8 .und, js.getD 9 .und, js.getD 10 .und, js.getD 11 .und]) (fun ⟨k, nx, js⟩ => ⟨[(0, poC p)], [], nx⟩) (fun ⟨k, nx, js⟩ => k ≤ p.mem.length ∧ rightsOf p.mem w = rightsOf (p.mem.drop k) w ∧ 1 ≤ nx) (fun ⟨k, nx, js⟩ => p.mem.length - k) ⟨0, 1, [_, _, _, _, _, _, _, _, _, _, _, _]⟩ rfl ?hs0 ?hi0 ?_
  rotate_left 2
  rintro ⟨k, nx, js⟩ sl_ hs hi
  simp only [setsF, setF, Option.some.injEq] at hs
  subst hs
  case hs0 => exact ASub.refl _
  case hi0 => exact ⟨by omega, rfl, by omega⟩
  obtain ⟨hk, hn, hnx⟩ := hi
  by_cases hlt : k < p.mem.length
  · have hel : p.mem[k]? = some p.mem[k] := List.getElem?_eq_getElem hlt
    have hcl := mbCs_load hel
    have hd := List.drop_eq_getElem_cons hlt
    generalize hx : p.mem[k] = x at *
    rw [hd] at hn
    simp only [rightsOf] at hn
    by_cases h1 : x.who = w
    · rw [if_pos h1] at hn
      rw [hn]
      refine Run ?_ trivial trivial trivial trivial trivial trivial trivial trivial trivial trivial trivial trivial
      rfl
    · rw [if_neg h1] at hn
      refine Run ?_ trivial trivial trivial trivial trivial trivial trivial trivial trivial trivial trivial trivial
      refine ALoopW_normal ⟨k + 1, nx + 1, [_, _, _, _, _, _, _, _, _, _, _, _]⟩ rfl ?hs1 ?hi1 ?hm1
      case hs1 => exact (ASub.refl _).drop (by simp only [alook]; repeat (first | rw [if_neg (by omega)]))
      case hi1 => exact ⟨by omega, hn, by omega⟩
      case hm1 => simp only; omega
  · obtain rfl : k = p.mem.length := by omega
    rw [List.drop_length] at hn
    rw [hn]
    refine Run ?_ trivial trivial trivial trivial trivial trivial trivial trivial trivial trivial trivial trivial
    rfl
def prevM (ms : List Mb) (k : Nat) : Int := if k = 0 then 0 else (ms.getD (k - 1) ⟨0, 0⟩).who
def mbAt (ms : List Mb) (k : Nat) (m : Mb) : Prop := prevM ms k < m.who ∧ m.who ≤ 16 ∧ 1 ≤ m.rights ∧ m.rights ≤ 7
def MbOk (ms : List Mb) : Prop := ∀ k, k < ms.length → mbAt ms k (ms.getD k ⟨0, 0⟩)
def PoOk (p : Po) : Prop := MbOk p.mem ∧ 0 ≤ p.epoch ∧ p.epoch ≤ 16 ∧ rightsOf p.mem p.founder = 7
instance (ms : List Mb) (k : Nat) (m : Mb) : Decidable (mbAt ms k m) := by unfold mbAt; infer_instance
instance (ms : List Mb) : Decidable (MbOk ms) := by unfold MbOk; infer_instance
instance (p : Po) : Decidable (PoOk p) := by unfold PoOk; infer_instance
set_option maxHeartbeats 4000000 in
theorem poright_val (p : Po) (hm : p.mem.length ≤ 9223372036854775807) : AVal Try.prog 34 [poA p] (.bool (decide (PoOk p))) := by
  refine AVal.mkw (by simp only [AV.shutL, poA_shut, Bool.and_self]) (by simp [AV.shut]) ?_
  refine ACalls_body Try.func34 rfl rfl ?_
  simp only [Try.ntmps34, List.length_cons, List.length_nil, Nat.reduceAdd, Nat.reduceSub, List.replicate_succ, List.replicate_zero, List.cons_append, List.nil_append]
  refine Run ?_ trivial trivial trivial trivial trivial trivial trivial trivial trivial trivial trivial trivial
  refine AWP_loopW [2, 3, 5, 7, 8, 9, 10, 11, 12, 13, 14, 15, 16, 17, 18, 19, 20, 21, 22, 23, 24, 25, 26, 27, 28, 29, 30, 31, 32, 33, 34] (N := Nat × Int × Int × List AV) (fun ⟨k, nx, la, js⟩ => [js.getD 0 .und, .int .i64 la, js.getD 1 .und, mbA p.mem, .int .i64 (p.mem.length : Int), .int .i64 (k : Int), js.getD 2 .und, js.getD 3 .und, js.getD 4 .und, js.getD 5 .und, js.getD 6 .und, js.getD 7 .und, js.getD 8 .und, js.getD 9 .und, js.getD 10 .und, js.getD 11 .und, js.getD 12 .und, js.getD 13 .und, js.getD 14 .und, js.getD 15 .und, js.getD 16 .und, js.getD 17 .und, js.getD 18 .und, js.getD 19 .und, js.getD 20 .und, js.getD 21 .und, js.getD 22 .und, js.getD 23 .und, js.getD 24 .und, js.getD 25 .und, js.getD 26 .und]) (fun ⟨k, nx, la, js⟩ => ⟨[(0, poC p)], [], nx⟩) (fun ⟨k, nx, la, js⟩ => k ≤ p.mem.length ∧ (∀ j, j < k → mbAt p.mem j (p.mem.getD j ⟨0, 0⟩)) ∧ 1 ≤ nx ∧ la = prevM p.mem k) (fun ⟨k, nx, la, js⟩ => p.mem.length - k) ⟨0, 1, 0, [_, _, _, _, _, _, _, _, _, _, _, _, _, _, _, _, _, _, _, _, _, _, _, _, _, _, _]⟩ rfl ?hs0 ?hi0 ?_
  rotate_left 2
  rintro ⟨k, nx, la, js⟩ sl_ hs hi
  simp only [setsF, setF, Option.some.injEq] at hs
  subst hs
  case hs0 => exact ASub.refl _
  case hi0 => exact ⟨by omega, fun j hj => by omega, by omega, rfl⟩
  obtain ⟨hk, hn, hnx, hla⟩ := hi
  by_cases hlt : k < p.mem.length
  · have hel : p.mem[k]? = some p.mem[k] := List.getElem?_eq_getElem hlt
    have hcl := mbCs_load hel
    have hgd : p.mem.getD k ⟨0, 0⟩ = p.mem[k] := getD_of hel
    have hpv : prevM p.mem (k + 1) = (p.mem.getD k ⟨0, 0⟩).who := by unfold prevM; rw [if_neg (by omega), Nat.add_sub_cancel]
    generalize hx : p.mem[k] = x at *
    rw [hgd] at hpv
    by_cases hok : mbAt p.mem k x
    · have hok' := hok
      obtain ⟨a1, a2, a3, a4⟩ := hok'
      refine Run ?_ trivial trivial trivial trivial trivial trivial trivial trivial trivial trivial trivial trivial
      refine ALoopW_normal ⟨k + 1, nx + 1, _, [_, _, _, _, _, _, _, _, _, _, _, _, _, _, _, _, _, _, _, _, _, _, _, _, _, _, _]⟩ rfl ?hs1 ?hi1 ?hm1
      case hs1 => exact (ASub.refl _).drop (by simp only [alook]; repeat (first | rw [if_neg (by omega)]))
      case hi1 => exact ⟨by omega, fun j hj => by
        by_cases hjk : j = k
        · rw [hjk, hgd]; exact hok
        · exact hn j (by omega), by omega, hpv.symm⟩
      case hm1 => simp only; omega
    · rw [decide_eq_false (fun h => hok (by rw [← hgd]; exact h.1 k hlt))]
      unfold mbAt at hok
      by_cases b1 : prevM p.mem k < x.who
      · by_cases b2 : x.who ≤ 16
        · by_cases b3 : 1 ≤ x.rights
          · have b4 : ¬ x.rights ≤ 7 := fun h => hok ⟨b1, b2, b3, h⟩
            refine Run ?_ trivial trivial trivial trivial trivial trivial trivial trivial trivial trivial trivial trivial
            rfl
          · refine Run ?_ trivial trivial trivial trivial trivial trivial trivial trivial trivial trivial trivial trivial
            rfl
        · refine Run ?_ trivial trivial trivial trivial trivial trivial trivial trivial trivial trivial trivial trivial
          rfl
      · refine Run ?_ trivial trivial trivial trivial trivial trivial trivial trivial trivial trivial trivial trivial
        rfl
  · obtain rfl : k = p.mem.length := by omega
    have hR := rights_val p p.founder hm
    have hF : PoOk p ↔ 0 ≤ p.epoch ∧ p.epoch ≤ 16 ∧ rightsOf p.mem p.founder = 7 := ⟨fun h => h.2, fun h => ⟨hn, h⟩⟩
    refine Run trivial trivial trivial trivial trivial trivial trivial trivial trivial trivial trivial hF Split.ok
end Go.Proofs.Ytaffpkogcpkmjaa
