/- Law 10: PolicyForms. -/
import Derived.Test.YtaffpkogcpkmjaaPoO
import Derived.Test.YtaffpkogcpkmjaaEnM
import Derived.Test.YtaffpkogcpkmjaaShr
namespace Go.Proofs.Ytaffpkogcpkmjaa
open Go.RowKit
set_option linter.unusedVariables false
set_option linter.unusedSimpArgs false
set_option maxRecDepth 10000
def Base (p : Po) : Prop := 1 ≤ p.founder ∧ p.founder ≤ 16 ∧ 0 ≤ p.epoch ∧ p.epoch ≤ 16
def Fnd (f : Int) (ms : List Mb) : Prop := ∃ m ∈ ms, m.who = f ∧ m.rights = 7
theorem rights_has : ∀ {ms : List Mb} {lo f : Int}, rise lo ms → (rightsOf ms f = 7 ↔ Fnd f ms)
  | [], _, _, _ => by simp [rightsOf, Fnd]
  | m :: r, lo, f, h => by
    have ih := rights_has (f := f) h.2.2.2.2
    unfold rightsOf
    by_cases h1 : m.who = f
    · rw [if_pos h1]
      constructor
      · intro h7; exact ⟨m, List.mem_cons_self .., h1, h7⟩
      · rintro ⟨m', hm', g1, g2⟩
        rcases List.mem_cons.1 hm' with rfl | hm'
        · exact g2
        · have := (rights_has (f := f) h.2.2.2.2).2 ⟨m', hm', g1, g2⟩
          rw [h.2.2.2.2.low (by omega)] at this
          cases this
    · rw [if_neg h1, ih]
      constructor
      · rintro ⟨m', hm', g⟩; exact ⟨m', List.mem_cons_of_mem _ hm', g⟩
      · rintro ⟨m', hm', g1, g2⟩
        rcases List.mem_cons.1 hm' with rfl | hm'
        · exact absurd g1 h1
        · exact ⟨m', hm', g1, g2⟩
theorem forms_iff (p : Po) : PoOk p ↔ (Base p ∧ MbOk p.mem) ∧ Fnd p.founder p.mem := by
  constructor
  · intro h
    exact ⟨⟨⟨h.founder.1, h.founder.2, h.2.1, h.2.2.1⟩, h.1⟩, (rights_has ((MbOk_iff _).1 h.1)).1 h.2.2.2⟩
  · rintro ⟨⟨h1, h2⟩, h3⟩
    exact ⟨h2, h1.2.2.1, h1.2.2.2, (rights_has ((MbOk_iff _).1 h2)).2 h3⟩
theorem prev_pos {ms : List Mb} : ∀ {k : Nat}, (∀ j, j < k → mbAt ms j (ms.getD j ⟨0, 0⟩)) → 0 ≤ prevM ms k
  | 0, _ => by simp [prevM]
  | k + 1, h => by
    have h1 := prev_pos (k := k) fun j hj => h j (by omega)
    have h2 := (h k (by omega)).1
    unfold prevM
    rw [if_neg (by omega), Nat.add_sub_cancel]
    omega
def WantK (p : Po) (k : Nat) : Prop := Base p ∧ ∀ j, j < k → mbAt p.mem j (p.mem.getD j ⟨0, 0⟩)
theorem Fnd_succ {f : Int} {ms : List Mb} {k : Nat} {x : Mb} (h : ms[k]? = some x) : Fnd f (ms.take (k + 1)) ↔ Fnd f (ms.take k) ∨ (x.who = f ∧ x.rights = 7) := by
  unfold Fnd
  rw [List.take_add_one, h]
  simp only [Option.toList_some, List.mem_append, List.mem_singleton]
  constructor
  · rintro ⟨m, hm | rfl, g⟩
    · exact .inl ⟨m, hm, g⟩
    · exact .inr g
  · rintro (⟨m, hm, g⟩ | g)
    · exact ⟨m, .inl hm, g⟩
    · exact ⟨x, .inr rfl, g⟩
theorem mayN_no {p : Po} {e : En} (h : ¬ PoOk p) : mayN p e = 10 := by unfold mayN; rw [if_pos (fun g => h g.1)]
set_option maxHeartbeats 20000000 in
theorem PolicyForms_law (p : Po) (e : En) (hp : p.mem.length ≤ 9223372036854775807) (hw : e.wraps.length ≤ 9223372036854775807) : ACalls Try.prog 10 [poA p, enA e] ⟨[], [], 0⟩ (fun rv _ => rv = .bool true) := by
  refine ACalls_body Try.func10 rfl rfl ?_
  simp only [Try.ntmps10, List.length_cons, List.length_nil, Nat.reduceAdd, Nat.reduceSub, List.replicate_succ, List.replicate_zero, List.cons_append, List.nil_append]
  have hS := smallE_val e hw
  by_cases hbig : 40 < p.mem.length
  · refine RunB ?_ trivial trivial @anchor10_val trivial trivial trivial trivial trivial trivial trivial trivial trivial
    rfl
  by_cases hsm : ¬ SmallE e
  · rw [decide_eq_false hsm] at hS
    refine RunB ?_ trivial trivial @anchor10_val trivial trivial trivial trivial trivial trivial trivial trivial trivial
    rfl
  have hsm : SmallE e := Classical.byContradiction hsm
  rw [decide_eq_true hsm] at hS
  have hmid := hsm.mid
  have hw20 : e.wraps.length ≤ 1000 := by have := hsm.2.2.2; omega
  have hM := may_val p e (by omega) hmid hw20
  have hR := poright_val p hp
  by_cases hb : ¬ Base p
  · have hno : ¬ PoOk p := fun h => hb ((forms_iff p).1 h).1.1
    have hA : AVal Try.prog 30 [poA p, enA e] (.tup [.agg [.int .i64 0, .int .i64 0, .sl .none [] 0], .int .i64 10]) := by
      have := apply_val p e (by omega) hmid hw20
      unfold apR apP at this
      rw [mayN_no hno, if_neg (by decide)] at this
      exact this
    rw [mayN_no hno] at hM
    rw [decide_eq_false hno] at hR
    unfold Base at hb
    apply share
    · intro hG
      have go : True := trivial
      by_cases g1 : 1 ≤ p.founder
      · by_cases g2 : p.founder ≤ 16
        · by_cases g3 : 0 ≤ p.epoch
          · have g4 : ¬ p.epoch ≤ 16 := fun h => hb ⟨g1, g2, g3, h⟩
            refine RunB ?_ trivial trivial @anchor10_val trivial trivial trivial trivial trivial trivial trivial trivial trivial
            refine AWP_forg 24 16 rfl ?_
            exact hG.out
          · refine RunB ?_ trivial trivial @anchor10_val trivial trivial trivial trivial trivial trivial trivial trivial trivial
            refine AWP_forg 24 16 rfl ?_
            exact hG.out
        · refine RunB ?_ trivial trivial @anchor10_val trivial trivial trivial trivial trivial trivial trivial trivial trivial
          refine AWP_forg 24 16 rfl ?_
          exact hG.out
      · refine RunB ?_ trivial trivial @anchor10_val trivial trivial trivial trivial trivial trivial trivial trivial trivial
        refine AWP_forg 24 16 rfl ?_
        exact hG.out
    · refine AWP_loopW [5, 6, 7, 8, 41, 42, 43, 44, 45, 46, 47, 48, 49, 50, 51, 52, 53, 54, 55, 56, 57, 58, 59, 60, 61, 62, 63, 64, 65, 66, 67, 68, 69, 70, 71, 72, 73, 74, 75, 76, 77, 78, 79, 80, 81, 82, 83, 84, 85, 86, 87, 88, 89, 90, 91, 92, 93, 94, 95, 96, 97, 98] (N := Nat × Int × Bool × List AV) (fun ⟨k, nx, fb, js⟩ => [.bool false, .bool fb, js.getD 0 .und, js.getD 1 .und, mbA p.mem, .int .i64 (p.mem.length : Int), .int .i64 (k : Int), js.getD 2 .und, js.getD 3 .und, js.getD 4 .und, js.getD 5 .und, js.getD 6 .und, js.getD 7 .und, js.getD 8 .und, js.getD 9 .und, js.getD 10 .und, js.getD 11 .und, js.getD 12 .und, js.getD 13 .und, js.getD 14 .und, js.getD 15 .und, js.getD 16 .und, js.getD 17 .und, js.getD 18 .und, js.getD 19 .und, js.getD 20 .und, js.getD 21 .und, js.getD 22 .und, js.getD 23 .und, js.getD 24 .und, js.getD 25 .und, js.getD 26 .und, js.getD 27 .und, js.getD 28 .und, js.getD 29 .und, js.getD 30 .und, js.getD 31 .und, js.getD 32 .und, js.getD 33 .und, js.getD 34 .und, js.getD 35 .und, js.getD 36 .und, js.getD 37 .und, js.getD 38 .und, js.getD 39 .und, js.getD 40 .und, js.getD 41 .und, js.getD 42 .und, js.getD 43 .und, js.getD 44 .und, js.getD 45 .und, js.getD 46 .und, js.getD 47 .und, js.getD 48 .und, js.getD 49 .und, js.getD 50 .und, js.getD 51 .und, js.getD 52 .und, js.getD 53 .und, js.getD 54 .und, js.getD 55 .und, js.getD 56 .und]) (fun ⟨k, nx, fb, js⟩ => ⟨[(1, enC e), (0, poC p)], [], nx⟩) (fun ⟨k, nx, fb, js⟩ => k ≤ p.mem.length ∧ 2 ≤ nx) (fun ⟨k, nx, fb, js⟩ => p.mem.length - k) ⟨0, 2, false, [_, _, _, _, _, _, _, _, _, _, _, _, _, _, _, _, _, _, _, _, _, _, _, _, _, _, _, _, _, _, _, _, _, _, _, _, _, _, _, _, _, _, _, _, _, _, _, _, _, _, _, _, _, _, _, _, _]⟩ rfl ?hs0 ?hi0 ?_
      rotate_left 2
      rintro ⟨k, nx, fb, js⟩ sl_ hs hi
      simp only [setsF, setF, Option.some.injEq] at hs
      subst hs
      case hs0 => exact ASub.refl _
      case hi0 => exact ⟨by omega, by omega⟩
      obtain ⟨hk, hnx⟩ := hi
      by_cases hlt : k < p.mem.length
      · have hel : p.mem[k]? = some p.mem[k] := List.getElem?_eq_getElem hlt
        have hcl := mbCs_load hel
        generalize hx : p.mem[k] = x at *
        cases fb with
        | true =>
          refine RunB ?_ trivial trivial trivial trivial trivial trivial trivial trivial trivial trivial trivial trivial
          refine ALoopW_normal ⟨k + 1, nx + 1, true, [_, _, _, _, _, _, _, _, _, _, _, _, _, _, _, _, _, _, _, _, _, _, _, _, _, _, _, _, _, _, _, _, _, _, _, _, _, _, _, _, _, _, _, _, _, _, _, _, _, _, _, _, _, _, _, _, _]⟩ rfl ?hs1 ?hi1 ?hm1
          case hs1 => exact (ASub.refl _).drop (by simp only [alook]; repeat (first | rw [if_neg (by omega)]))
          case hi1 => exact ⟨by omega, by omega⟩
          case hm1 => simp only; omega
        | false =>
          by_cases f1 : x.who = p.founder
          · by_cases f2 : x.rights = 7
            · refine RunB ?_ trivial trivial trivial trivial trivial trivial trivial trivial trivial trivial trivial trivial
              refine ALoopW_normal ⟨k + 1, nx + 1, true, [_, _, _, _, _, _, _, _, _, _, _, _, _, _, _, _, _, _, _, _, _, _, _, _, _, _, _, _, _, _, _, _, _, _, _, _, _, _, _, _, _, _, _, _, _, _, _, _, _, _, _, _, _, _, _, _, _]⟩ rfl ?hs1 ?hi1 ?hm1
              case hs1 => exact (ASub.refl _).drop (by simp only [alook]; repeat (first | rw [if_neg (by omega)]))
              case hi1 => exact ⟨by omega, by omega⟩
              case hm1 => simp only; omega
            · refine RunB ?_ trivial trivial trivial trivial trivial trivial trivial trivial trivial trivial trivial trivial
              refine ALoopW_normal ⟨k + 1, nx + 1, false, [_, _, _, _, _, _, _, _, _, _, _, _, _, _, _, _, _, _, _, _, _, _, _, _, _, _, _, _, _, _, _, _, _, _, _, _, _, _, _, _, _, _, _, _, _, _, _, _, _, _, _, _, _, _, _, _, _]⟩ rfl ?hs1 ?hi1 ?hm1
              case hs1 => exact (ASub.refl _).drop (by simp only [alook]; repeat (first | rw [if_neg (by omega)]))
              case hi1 => exact ⟨by omega, by omega⟩
              case hm1 => simp only; omega
          · refine RunB ?_ trivial trivial trivial trivial trivial trivial trivial trivial trivial trivial trivial trivial
            refine ALoopW_normal ⟨k + 1, nx + 1, false, [_, _, _, _, _, _, _, _, _, _, _, _, _, _, _, _, _, _, _, _, _, _, _, _, _, _, _, _, _, _, _, _, _, _, _, _, _, _, _, _, _, _, _, _, _, _, _, _, _, _, _, _, _, _, _, _, _]⟩ rfl ?hs1 ?hi1 ?hm1
            case hs1 => exact (ASub.refl _).drop (by simp only [alook]; repeat (first | rw [if_neg (by omega)]))
            case hi1 => exact ⟨by omega, by omega⟩
            case hm1 => simp only; omega
      · obtain rfl : k = p.mem.length := by omega
        refine RunB ?_ trivial trivial trivial trivial trivial trivial trivial trivial trivial trivial trivial trivial
        rfl
  have hb : Base p := Classical.byContradiction hb
  obtain ⟨g1, g2, g3, g4⟩ := id hb
  refine RunB ?_ trivial trivial @anchor10_val trivial trivial trivial trivial trivial trivial trivial trivial trivial
  refine AWP_loopW [5, 6, 7, 8, 41, 42, 43, 44, 45, 46, 47, 48, 49, 50, 51, 52, 53, 54, 55, 56, 57, 58, 59, 60, 61, 62, 63, 64, 65, 66, 67, 68, 69, 70, 71, 72, 73, 74, 75, 76, 77, 78, 79, 80, 81, 82, 83, 84, 85, 86, 87, 88, 89, 90, 91, 92, 93, 94, 95, 96, 97, 98] (N := Nat × Int × Bool × Bool × List AV) (fun ⟨k, nx, wb, fb, js⟩ => [.bool wb, .bool fb, js.getD 0 .und, js.getD 1 .und, mbA p.mem, .int .i64 (p.mem.length : Int), .int .i64 (k : Int), js.getD 2 .und, js.getD 3 .und, js.getD 4 .und, js.getD 5 .und, js.getD 6 .und, js.getD 7 .und, js.getD 8 .und, js.getD 9 .und, js.getD 10 .und, js.getD 11 .und, js.getD 12 .und, js.getD 13 .und, js.getD 14 .und, js.getD 15 .und, js.getD 16 .und, js.getD 17 .und, js.getD 18 .und, js.getD 19 .und, js.getD 20 .und, js.getD 21 .und, js.getD 22 .und, js.getD 23 .und, js.getD 24 .und, js.getD 25 .und, js.getD 26 .und, js.getD 27 .und, js.getD 28 .und, js.getD 29 .und, js.getD 30 .und, js.getD 31 .und, js.getD 32 .und, js.getD 33 .und, js.getD 34 .und, js.getD 35 .und, js.getD 36 .und, js.getD 37 .und, js.getD 38 .und, js.getD 39 .und, js.getD 40 .und, js.getD 41 .und, js.getD 42 .und, js.getD 43 .und, js.getD 44 .und, js.getD 45 .und, js.getD 46 .und, js.getD 47 .und, js.getD 48 .und, js.getD 49 .und, js.getD 50 .und, js.getD 51 .und, js.getD 52 .und, js.getD 53 .und, js.getD 54 .und, js.getD 55 .und, js.getD 56 .und]) (fun ⟨k, nx, wb, fb, js⟩ => ⟨[(1, enC e), (0, poC p)], [], nx⟩) (fun ⟨k, nx, wb, fb, js⟩ => k ≤ p.mem.length ∧ (wb = true ↔ ∀ j, j < k → mbAt p.mem j (p.mem.getD j ⟨0, 0⟩)) ∧ (fb = true ↔ Fnd p.founder (p.mem.take k)) ∧ 2 ≤ nx) (fun ⟨k, nx, wb, fb, js⟩ => p.mem.length - k) ⟨0, 2, true, false, [_, _, _, _, _, _, _, _, _, _, _, _, _, _, _, _, _, _, _, _, _, _, _, _, _, _, _, _, _, _, _, _, _, _, _, _, _, _, _, _, _, _, _, _, _, _, _, _, _, _, _, _, _, _, _, _, _]⟩ rfl ?hs0 ?hi0 ?_
  rotate_left 2
  rintro ⟨k, nx, wb, fb, js⟩ sl_ hs hi
  simp only [setsF, setF, Option.some.injEq] at hs
  subst hs
  case hs0 => exact ASub.refl _
  case hi0 => exact ⟨by omega, by simp, by simp [Fnd], by omega⟩
  obtain ⟨hk, hW, hF, hnx⟩ := hi
  by_cases hlt : k < p.mem.length
  · have hel : p.mem[k]? = some p.mem[k] := List.getElem?_eq_getElem hlt
    have hcl := mbCs_load hel
    have hgd : p.mem.getD k ⟨0, 0⟩ = p.mem[k] := getD_of hel
    have hpc : ∀ q, q < p.mem.length → (mbCs p.mem)[q * 2 + 0]? = some (.int .i64 (p.mem.getD q ⟨0, 0⟩).who) := fun q hq => by
      have h1 : p.mem[q]? = some p.mem[q] := List.getElem?_eq_getElem hq
      rw [getD_of h1]
      exact mbCs_who h1
    generalize hx : p.mem[k] = x at *
    by_cases hok : wb = true ∧ mbAt p.mem k x
    · obtain ⟨rfl, hat⟩ := hok
      have hall := hW.1 rfl
      have hpp := prev_pos hall
      have hW' : (true = true ↔ ∀ j, j < k + 1 → mbAt p.mem j (p.mem.getD j ⟨0, 0⟩)) := ⟨fun _ j hj => (by
        by_cases hjk : j = k
        · rw [hjk, hgd]; exact hat
        · exact hall j (by omega)), fun _ => rfl⟩
      obtain ⟨b5, b2, b3, b4⟩ := hat
      apply share
      · intro hG
        by_cases k0 : k = 0
        · have hk0 : (k : Int) = 0 := by omega
          refine RunB ?_ trivial trivial trivial trivial trivial trivial trivial trivial trivial trivial trivial trivial
          refine AOPS_forg 48 37 rfl ?_
          exact hG.out
        · have hk0 : ¬ (k : Int) = 0 := by omega
          have hpv : prevM p.mem k = (p.mem.getD (k - 1) ⟨0, 0⟩).who := by unfold prevM; rw [if_neg k0]
          have hpl := hpc (k - 1) (by omega)
          rw [← hpv] at hpl
          have hpl2 : (mbCs p.mem)[((k : Int) - 1).toNat * 2 + 0]? = some (.int .i64 (prevM p.mem k)) := by rw [show ((k : Int) - 1).toNat = k - 1 by omega]; exact hpl
          refine RunB ?_ trivial trivial trivial trivial trivial trivial trivial trivial trivial trivial trivial trivial
          refine AOPS_forg 48 37 rfl ?_
          exact hG.out
      · cases fb with
        | true =>
          refine RunB ?_ trivial trivial trivial trivial trivial trivial trivial trivial trivial trivial trivial trivial
          refine ALoopW_normal ⟨k + 1, nx + 1, true, true, [_, _, _, _, _, _, _, _, _, _, _, _, _, _, _, _, _, _, _, _, _, _, _, _, _, _, _, _, _, _, _, _, _, _, _, _, _, _, _, _, _, _, _, _, _, _, _, _, _, _, _, _, _, _, _, _, _]⟩ rfl ?hs1 ?hi1 ?hm1
          case hs1 => exact (ASub.refl _).drop (by simp only [alook]; repeat (first | rw [if_neg (by omega)]))
          case hi1 => exact ⟨by omega, hW', by rw [Fnd_succ hel, ← hF]; simp, by omega⟩
          case hm1 => simp only; omega
        | false =>
          by_cases f1 : x.who = p.founder
          · by_cases f2 : x.rights = 7
            · refine RunB ?_ trivial trivial trivial trivial trivial trivial trivial trivial trivial trivial trivial trivial
              refine ALoopW_normal ⟨k + 1, nx + 1, true, true, [_, _, _, _, _, _, _, _, _, _, _, _, _, _, _, _, _, _, _, _, _, _, _, _, _, _, _, _, _, _, _, _, _, _, _, _, _, _, _, _, _, _, _, _, _, _, _, _, _, _, _, _, _, _, _, _, _]⟩ rfl ?hs1 ?hi1 ?hm1
              case hs1 => exact (ASub.refl _).drop (by simp only [alook]; repeat (first | rw [if_neg (by omega)]))
              case hi1 => exact ⟨by omega, hW', by rw [Fnd_succ hel]; simp [f1, f2], by omega⟩
              case hm1 => simp only; omega
            · refine RunB ?_ trivial trivial trivial trivial trivial trivial trivial trivial trivial trivial trivial trivial
              refine ALoopW_normal ⟨k + 1, nx + 1, true, false, [_, _, _, _, _, _, _, _, _, _, _, _, _, _, _, _, _, _, _, _, _, _, _, _, _, _, _, _, _, _, _, _, _, _, _, _, _, _, _, _, _, _, _, _, _, _, _, _, _, _, _, _, _, _, _, _, _]⟩ rfl ?hs1 ?hi1 ?hm1
              case hs1 => exact (ASub.refl _).drop (by simp only [alook]; repeat (first | rw [if_neg (by omega)]))
              case hi1 => exact ⟨by omega, hW', by rw [Fnd_succ hel, ← hF]; simp [f2], by omega⟩
              case hm1 => simp only; omega
          · refine RunB ?_ trivial trivial trivial trivial trivial trivial trivial trivial trivial trivial trivial trivial
            refine ALoopW_normal ⟨k + 1, nx + 1, true, false, [_, _, _, _, _, _, _, _, _, _, _, _, _, _, _, _, _, _, _, _, _, _, _, _, _, _, _, _, _, _, _, _, _, _, _, _, _, _, _, _, _, _, _, _, _, _, _, _, _, _, _, _, _, _, _, _, _]⟩ rfl ?hs1 ?hi1 ?hm1
            case hs1 => exact (ASub.refl _).drop (by simp only [alook]; repeat (first | rw [if_neg (by omega)]))
            case hi1 => exact ⟨by omega, hW', by rw [Fnd_succ hel, ← hF]; simp [f1], by omega⟩
            case hm1 => simp only; omega
    · have hW' : (false = true ↔ ∀ j, j < k + 1 → mbAt p.mem j (p.mem.getD j ⟨0, 0⟩)) := ⟨fun h => (by cases h), fun h => (hok ⟨hW.2 fun j hj => h j (by omega), by have := h k (by omega); rw [hgd] at this; exact this⟩).elim⟩
      apply share
      · intro hG
        cases wb with
        | false =>
          refine RunB ?_ trivial trivial trivial trivial trivial trivial trivial trivial trivial trivial trivial trivial
          refine AOPS_forg 48 37 rfl ?_
          exact hG.out
        | true =>
          have hall := hW.1 rfl
          have hpp := prev_pos hall
          by_cases b1 : ¬ 1 ≤ x.who
          · refine RunB ?_ trivial trivial trivial trivial trivial trivial trivial trivial trivial trivial trivial trivial
            refine AOPS_forg 48 37 rfl ?_
            exact hG.out
          by_cases b2 : ¬ x.who ≤ 16
          · refine RunB ?_ trivial trivial trivial trivial trivial trivial trivial trivial trivial trivial trivial trivial
            refine AOPS_forg 48 37 rfl ?_
            exact hG.out
          by_cases b3 : ¬ 1 ≤ x.rights
          · refine RunB ?_ trivial trivial trivial trivial trivial trivial trivial trivial trivial trivial trivial trivial
            refine AOPS_forg 48 37 rfl ?_
            exact hG.out
          by_cases b4 : ¬ x.rights ≤ 7
          · refine RunB ?_ trivial trivial trivial trivial trivial trivial trivial trivial trivial trivial trivial trivial
            refine AOPS_forg 48 37 rfl ?_
            exact hG.out
          have b5 : ¬ prevM p.mem k < x.who := fun h => hok ⟨rfl, h, by omega, by omega, by omega⟩
          have k0 : ¬ k = 0 := fun h => b5 (by unfold prevM; rw [if_pos h]; omega)
          have hk0 : ¬ (k : Int) = 0 := by omega
          have hpv : prevM p.mem k = (p.mem.getD (k - 1) ⟨0, 0⟩).who := by unfold prevM; rw [if_neg k0]
          have hpl := hpc (k - 1) (by omega)
          rw [← hpv] at hpl
          have hpl2 : (mbCs p.mem)[((k : Int) - 1).toNat * 2 + 0]? = some (.int .i64 (prevM p.mem k)) := by rw [show ((k : Int) - 1).toNat = k - 1 by omega]; exact hpl
          refine RunB ?_ trivial trivial trivial trivial trivial trivial trivial trivial trivial trivial trivial trivial
          refine AOPS_forg 48 37 rfl ?_
          exact hG.out
      · cases fb with
        | true =>
          refine RunB ?_ trivial trivial trivial trivial trivial trivial trivial trivial trivial trivial trivial trivial
          refine ALoopW_normal ⟨k + 1, nx + 1, false, true, [_, _, _, _, _, _, _, _, _, _, _, _, _, _, _, _, _, _, _, _, _, _, _, _, _, _, _, _, _, _, _, _, _, _, _, _, _, _, _, _, _, _, _, _, _, _, _, _, _, _, _, _, _, _, _, _, _]⟩ rfl ?hs1 ?hi1 ?hm1
          case hs1 => exact (ASub.refl _).drop (by simp only [alook]; repeat (first | rw [if_neg (by omega)]))
          case hi1 => exact ⟨by omega, hW', by rw [Fnd_succ hel, ← hF]; simp, by omega⟩
          case hm1 => simp only; omega
        | false =>
          by_cases f1 : x.who = p.founder
          · by_cases f2 : x.rights = 7
            · refine RunB ?_ trivial trivial trivial trivial trivial trivial trivial trivial trivial trivial trivial trivial
              refine ALoopW_normal ⟨k + 1, nx + 1, false, true, [_, _, _, _, _, _, _, _, _, _, _, _, _, _, _, _, _, _, _, _, _, _, _, _, _, _, _, _, _, _, _, _, _, _, _, _, _, _, _, _, _, _, _, _, _, _, _, _, _, _, _, _, _, _, _, _, _]⟩ rfl ?hs1 ?hi1 ?hm1
              case hs1 => exact (ASub.refl _).drop (by simp only [alook]; repeat (first | rw [if_neg (by omega)]))
              case hi1 => exact ⟨by omega, hW', by rw [Fnd_succ hel]; simp [f1, f2], by omega⟩
              case hm1 => simp only; omega
            · refine RunB ?_ trivial trivial trivial trivial trivial trivial trivial trivial trivial trivial trivial trivial
              refine ALoopW_normal ⟨k + 1, nx + 1, false, false, [_, _, _, _, _, _, _, _, _, _, _, _, _, _, _, _, _, _, _, _, _, _, _, _, _, _, _, _, _, _, _, _, _, _, _, _, _, _, _, _, _, _, _, _, _, _, _, _, _, _, _, _, _, _, _, _, _]⟩ rfl ?hs1 ?hi1 ?hm1
              case hs1 => exact (ASub.refl _).drop (by simp only [alook]; repeat (first | rw [if_neg (by omega)]))
              case hi1 => exact ⟨by omega, hW', by rw [Fnd_succ hel, ← hF]; simp [f2], by omega⟩
              case hm1 => simp only; omega
          · refine RunB ?_ trivial trivial trivial trivial trivial trivial trivial trivial trivial trivial trivial trivial
            refine ALoopW_normal ⟨k + 1, nx + 1, false, false, [_, _, _, _, _, _, _, _, _, _, _, _, _, _, _, _, _, _, _, _, _, _, _, _, _, _, _, _, _, _, _, _, _, _, _, _, _, _, _, _, _, _, _, _, _, _, _, _, _, _, _, _, _, _, _, _, _]⟩ rfl ?hs1 ?hi1 ?hm1
            case hs1 => exact (ASub.refl _).drop (by simp only [alook]; repeat (first | rw [if_neg (by omega)]))
            case hi1 => exact ⟨by omega, hW', by rw [Fnd_succ hel, ← hF]; simp [f1], by omega⟩
            case hm1 => simp only; omega
  · obtain rfl : k = p.mem.length := by omega
    rw [List.take_length] at hF
    have hMb : MbOk p.mem ↔ wb = true := by rw [hW]; exact Iff.rfl
    have hpk : PoOk p ↔ wb = true ∧ fb = true := by
      rw [forms_iff, hMb, hF]
      exact ⟨fun h => ⟨h.1.2, h.2⟩, fun h => ⟨⟨hb, h.1⟩, h.2⟩⟩
    by_cases hpo : PoOk p
    · obtain ⟨rfl, rfl⟩ := hpk.1 hpo
      rw [decide_eq_true hpo] at hR
      have hA := apply_val p e (by omega) hmid hw20
      unfold apR at hA
      generalize apP p e = q at hA
      generalize mayN p e = mm at hA hM
      refine RunB ?_ trivial trivial trivial trivial trivial trivial trivial trivial trivial trivial trivial trivial
      rfl
    · rw [decide_eq_false hpo] at hR
      have hA : AVal Try.prog 30 [poA p, enA e] (.tup [.agg [.int .i64 0, .int .i64 0, .sl .none [] 0], .int .i64 10]) := by
        have := apply_val p e (by omega) hmid hw20
        unfold apR apP at this
        rw [mayN_no hpo, if_neg (by decide)] at this
        exact this
      rw [mayN_no hpo] at hM
      cases wb with
      | false =>
        refine RunB ?_ trivial trivial trivial trivial trivial trivial trivial trivial trivial trivial trivial trivial
        rfl
      | true =>
        cases fb with
        | true => exact absurd (hpk.2 ⟨rfl, rfl⟩) hpo
        | false =>
          refine RunB ?_ trivial trivial trivial trivial trivial trivial trivial trivial trivial trivial trivial trivial
          rfl
theorem PolicyForms_walk (w : World) (cs : Array Value) (p : Po) (hp : RPo w cs.toList p) (cs2 : Array Value) (e : En) (he : REn w cs2.toList e) : Calls Try.prog 10 #[.agg cs, .agg cs2] w (Tells w true) := (PolicyForms_law p e hp.len he.wraps).tells (.cons hp.agg (.one he.agg))
end Go.Proofs.Ytaffpkogcpkmjaa
