/- Law 10: PolicyRotates. -/
import Derived.Test.YtaffpkogcpkmjaaPoW3
import Derived.Test.YtaffpkogcpkmjaaEnM
import Derived.Test.YtaffpkogcpkmjaaShr
namespace Go.Proofs.Ytaffpkogcpkmjaa
open Go.RowKit
set_option linter.unusedVariables false
set_option linter.unusedSimpArgs false
set_option maxRecDepth 10000
def z48 : List UInt8 := List.replicate 48 0
def zz48 : List AV := List.replicate 48 (.int .u8 0)
def rwsC (l : List Int) : List AV := l.flatMap fun v => [.int .i64 v, .sl .full zz48 48]
def wp48 (l : List Int) : List Wp := l.map fun v => ⟨v, z48⟩
theorem rws_wk : ∀ l : List Int, AV.wkL (rwsC l) = wpCs (wp48 l)
  | [] => rfl
  | v :: l => by
    have ih := rws_wk l
    have h1 : rwsC (v :: l) = .int .i64 v :: .sl .full zz48 48 :: rwsC l := rfl
    have h2 : wpCs (wp48 (v :: l)) = .int .i64 v :: bsA z48 :: wpCs (wp48 l) := rfl
    rw [h1, h2]
    simp only [AV.wkL, AV.wk, ih]
    rfl
theorem both_wk : (∀ ms : List Mb, AV.wkL (mbCs ms) = mbCs ms) ∧ (∀ l : List Int, AV.wkL (rwsC l) = wpCs (wp48 l)) := ⟨mbCs_wk, rws_wk⟩
theorem wp48_len (l : List Int) : (wp48 l).length = l.length := by simp [wp48]
theorem wp48_who (l : List Int) : (wp48 l).map Wp.who = l := by simp [wp48, Function.comp_def]
def rotE (ep : Int) (l : List Int) : En := ⟨5, 1, 1, [], [], 0, 0, ep, wp48 l⟩
theorem rotE_mid (ep : Int) (l : List Int) (h : l.length ≤ 1000) : (rotE ep l).Mid := ⟨by simp [rotE], by simp [rotE], by simp [rotE, wp48]; omega, fun w hw => by
  simp only [rotE, wp48, List.mem_map] at hw
  obtain ⟨v, _, rfl⟩ := hw
  simp [z48]⟩
theorem rot_may {p : Po} {ep : Int} {l : List Int} (hp : PoOk p) (hf : p.founder = 1) (he : EnOk (rotE ep l)) : mayN p (rotE ep l) = if Fits p (rotE ep l) then 0 else 34 := by
  have h7 := hp.2.2.2
  rw [hf] at h7
  unfold mayN
  rw [if_neg (by rw [Classical.not_not]; exact ⟨hp, he⟩), if_neg (show ¬ (rotE ep l).kind ≤ 2 from (by decide : ¬ (5 : Int) ≤ 2)), if_neg (by rintro ⟨g, _⟩; exact g rfl), if_neg (by show ¬ rightsOf p.mem 1 < 4; omega)]
  by_cases h : Fits p (rotE ep l)
  · rw [if_neg (fun g => g.2 h), if_pos h]
  · rw [if_pos ⟨rfl, h⟩, if_neg h]
theorem rot_fits {p : Po} {ep : Int} {l : List Int} (he : p.epoch = 0) : Fits p (rotE ep l) ↔ ep = 1 ∧ l = readersOf p.mem := by
  unfold Fits
  rw [he]
  show ep = 0 + 1 ∧ (wp48 l).map Wp.who = _ ↔ _
  rw [wp48_who]
  constructor <;> rintro ⟨a, b⟩ <;> exact ⟨by omega, b⟩
set_option maxHeartbeats 20000000 in
theorem PolicyRotates_law (rs : List Int) (ep : Int) (who : List Int) (hm : rs.length ≤ 9223372036854775807) (hm2 : who.length ≤ 9223372036854775807) : ACalls Try.prog 14 [insA rs, .int .i64 ep, insA who] ⟨[], [], 0⟩ (fun rv _ => rv = .bool true) := by
  refine ACalls_body Try.func14 rfl rfl ?_
  simp only [Try.ntmps14, List.length_cons, List.length_nil, Nat.reduceAdd, Nat.reduceSub, List.replicate_succ, List.replicate_zero, List.cons_append, List.nil_append]
  by_cases hb1 : 8 < rs.length
  · refine RunB ?_ trivial trivial @anchor10_val trivial trivial trivial trivial trivial trivial trivial trivial trivial
    rfl
  by_cases hb2 : 10 < who.length
  · refine RunB ?_ trivial trivial @anchor10_val trivial trivial trivial trivial trivial trivial trivial trivial trivial
    rfl
  by_cases hb3 : ep < 1
  · refine RunB ?_ trivial trivial @anchor10_val trivial trivial trivial trivial trivial trivial trivial trivial trivial
    rfl
  by_cases hb4 : 16 < ep
  · refine RunB ?_ trivial trivial @anchor10_val trivial trivial trivial trivial trivial trivial trivial trivial trivial
    rfl
  have hF : AVal Try.prog 27 [.int .i64 1] (.tup [.agg [.int .i64 1, .int .i64 0, .sl .none [.int .i64 1, .int .i64 7] 1], .int .i64 0]) := first_val 1
  refine RunB ?_ trivial trivial @anchor10_val trivial trivial trivial trivial trivial trivial trivial trivial trivial
  refine AWP_loopS [6, 8, 9, 10, 42, 43, 44, 45, 46, 47, 48, 49, 50, 51, 52, 53, 54, 55, 56, 57, 58, 59, 60, 61, 62, 63, 64, 65, 66] (N := Nat × Po × List AV) (fun ⟨k, p, js⟩ => [js.getD 0 .und, .int .i64 0, js.getD 1 .und, js.getD 2 .und, insA rs, .int .i64 (rs.length : Int), .int .i64 (k : Int), js.getD 3 .und, js.getD 4 .und, js.getD 5 .und, js.getD 6 .und, js.getD 7 .und, js.getD 8 .und, js.getD 9 .und, js.getD 10 .und, js.getD 11 .und, js.getD 12 .und, js.getD 13 .und, js.getD 14 .und, js.getD 15 .und, js.getD 16 .und, js.getD 17 .und, js.getD 18 .und, js.getD 19 .und, js.getD 20 .und, js.getD 21 .und, js.getD 22 .und, js.getD 23 .und, js.getD 24 .und]) (fun ⟨k, p, js⟩ => ⟨[(0, [.int .i64 p.founder, .int .i64 p.epoch, mbA p.mem])], [], 1⟩) (fun ⟨k, p, js⟩ => k ≤ rs.length ∧ PoOk p ∧ p.founder = 1 ∧ p.epoch = 0) (fun ⟨k, p, js⟩ => rs.length - k) ⟨0, p1 1, [_, _, _, _, _, _, _, _, _, _, _, _, _, _, _, _, _, _, _, _, _, _, _, _, _]⟩ rfl rfl ?hi0 ?_
  rotate_left
  rintro ⟨k, p, js⟩ sl_ hs hi
  simp only [setsF, setF, Option.some.injEq] at hs
  subst hs
  case hi0 => exact ⟨by omega, (p1_ok 1).2 (by omega), rfl, rfl⟩
  obtain ⟨hk, hp, hfo, hep⟩ := hi
  have hpl := hp.len
  by_cases hlt : k < rs.length
  · have c0 := inA_get hlt
    generalize hx : rs[k] = r at *
    by_cases d1 : r < 1
    · refine RunB ?_ trivial trivial trivial trivial trivial trivial trivial trivial trivial trivial trivial trivial
      rfl
    by_cases d2 : 7 < r
    · refine RunB ?_ trivial trivial trivial trivial trivial trivial trivial trivial trivial trivial trivial trivial
      rfl
    have hok : EnOk (grE 3 1 ((k : Int) + 2) r) := gr3_ok (by omega) (by omega) (by omega) (by omega) (by omega) (by omega)
    have hmay := gr_may hp hfo (.inl rfl) (by omega) hok
    have hqo := poApp_ok hmay
    have hqf := poApp_founder p (grE 3 1 ((k : Int) + 2) r)
    have hqe := poApp_epoch p (grE 3 1 ((k : Int) + 2) r)
    rw [if_neg (show ¬ (grE 3 1 ((k : Int) + 2) r).kind = 5 from (by decide : ¬ (3 : Int) = 5))] at hqe
    have hA : AVal Try.prog 30 [poA p, .agg [.int .i64 3, .int .i64 1, .int .i64 1, .sl .none [] 0, .sl .none [] 0, .int .i64 ((k : Int) + 2), .int .i64 r, .int .i64 0, .sl .none [] 0]] (.tup [poA (poApp p (grE 3 1 ((k : Int) + 2) r)), .int .i64 0]) := by
      have := apply_val p (grE 3 1 ((k : Int) + 2) r) (by omega) (grE_mid ..) (by simp [grE])
      unfold apR apP at this
      rw [hmay, if_pos rfl] at this
      exact this
    generalize poApp p (grE 3 1 ((k : Int) + 2) r) = q at *
    refine RunB ?_ trivial trivial trivial trivial trivial trivial trivial trivial trivial @mbCs_wk trivial trivial
    refine ALoopQ_normal ⟨k + 1, q, [_, _, _, _, _, _, _, _, _, _, _, _, _, _, _, _, _, _, _, _, _, _, _, _, _]⟩ rfl rfl ?hi1 ?hm1
    case hi1 => exact ⟨by omega, hqo, by rw [hqf]; exact hfo, by rw [hqe]; exact hep⟩
    case hm1 => simp only; omega
  · obtain rfl : k = rs.length := by omega
    have hRd := readers_val p hp.1 (by omega)
    have hRl := readersOf_len p.mem
    have hx48 := rotE_mid ep who (by omega)
    have hAx : AVal Try.prog 30 [poA p, .agg [.int .i64 5, .int .i64 1, .int .i64 1, .sl .none [] 0, .sl .none [] 0, .int .i64 0, .int .i64 0, .int .i64 ep, .sl .none (wpCs (wp48 who)) who.length]] (apR p (rotE ep who)) := by
      have := apply_val p (rotE ep who) (by omega) hx48 (by show (wp48 who).length ≤ 1000; rw [wp48_len]; omega)
      have e1 : enA (rotE ep who) = .agg [.int .i64 5, .int .i64 1, .int .i64 1, .sl .none [] 0, .sl .none [] 0, .int .i64 0, .int .i64 0, .int .i64 ep, .sl .none (wpCs (wp48 who)) (wp48 who).length] := rfl
      rw [e1, wp48_len] at this
      exact this
    have hRx : AVal Try.prog 19 [.agg [.int .i64 5, .int .i64 1, .int .i64 1, .sl .none [] 0, .sl .none [] 0, .int .i64 0, .int .i64 0, .int .i64 ep, .sl .none (wpCs (wp48 who)) who.length]] (.bool (decide (EnOk (rotE ep who)))) := by
      have := enright_val (rotE ep who) hx48
      have e1 : enA (rotE ep who) = .agg [.int .i64 5, .int .i64 1, .int .i64 1, .sl .none [] 0, .sl .none [] 0, .int .i64 0, .int .i64 0, .int .i64 ep, .sl .none (wpCs (wp48 who)) (wp48 who).length] := rfl
      rw [e1, wp48_len] at this
      exact this
    unfold apR apP at hAx
    refine RunB ?_ trivial trivial trivial trivial trivial trivial trivial trivial trivial trivial trivial trivial
    · refine AWP_adoptO 1 8 2 rfl rfl rfl rfl ?_
      refine AWP_loopW [13, 14, 15, 76, 77, 78, 79, 80, 81, 82, 83, 84, 85, 86, 87, 88, 89, 90, 91, 92, 93, 94, 95, 96, 97, 98, 99, 100] (N := Nat × Nat × List AV × Int × Bool × List AV) (fun ⟨k, n, cs, nx, sm, js⟩ => [.bool sm, js.getD 0 .und, js.getD 1 .und, insA who, .int .i64 (who.length : Int), .int .i64 (k : Int), js.getD 2 .und, js.getD 3 .und, js.getD 4 .und, js.getD 5 .und, js.getD 6 .und, js.getD 7 .und, js.getD 8 .und, js.getD 9 .und, js.getD 10 .und, js.getD 11 .und, js.getD 12 .und, js.getD 13 .und, js.getD 14 .und, js.getD 15 .und, js.getD 16 .und, js.getD 17 .und, js.getD 18 .und, js.getD 19 .und, js.getD 20 .und, js.getD 21 .und, js.getD 22 .und, js.getD 23 .und]) (fun ⟨k, n, cs, nx, sm, js⟩ => ⟨[(1, [.int .i64 5, .int .i64 1, .int .i64 1, .nils, .nils, .int .i64 0, .int .i64 0, .int .i64 ep, .sl (.tok 2 n 2) cs n]), (0, [.int .i64 p.founder, .int .i64 p.epoch, mbA p.mem])], [(2, n)], nx⟩) (fun ⟨k, n, cs, nx, sm, js⟩ => k ≤ who.length ∧ n = k ∧ cs = rwsC (who.take k) ∧ (sm = true ↔ who.length = (readersOf p.mem).length ∧ who.take k = (readersOf p.mem).take k) ∧ 3 ≤ nx) (fun ⟨k, n, cs, nx, sm, js⟩ => who.length - k) ⟨0, 0, [], 3, _, [_, _, _, _, _, _, _, _, _, _, _, _, _, _, _, _, _, _, _, _, _, _, _, _]⟩ rfl ?hs0 ?hi0 ?_
      rotate_left 2
      rintro ⟨k, n, cs, nx, sm, js⟩ sl_ hs hi
      simp only [setsF, setF, Option.some.injEq] at hs
      subst hs
      case hs0 => exact ASub.refl _
      case hi0 => exact ⟨by omega, rfl, rfl, by simp; omega, by omega⟩
      obtain ⟨hk, hn, hcs, hsm, hnx⟩ := hi
      by_cases hlw : k < who.length
      · have c0 := inA_get hlw
        have hs1 : rwsC (who.take (k + 1)) = rwsC (who.take k) ++ [.int .i64 who[k], .sl .full zz48 48] := by
          rw [List.take_add_one, List.getElem?_eq_getElem hlw]
          unfold rwsC
          rw [List.flatMap_append]
          rfl
        have htk : ∀ hr : k < (readersOf p.mem).length, (who.take (k + 1) = (readersOf p.mem).take (k + 1) ↔ who.take k = (readersOf p.mem).take k ∧ (readersOf p.mem)[k] = who[k]) := fun hr => by
          rw [List.take_add_one, List.take_add_one, List.getElem?_eq_getElem hlw, List.getElem?_eq_getElem hr]
          simp only [Option.toList_some]
          constructor
          · intro h
            have h2 := List.append_inj' h rfl
            exact ⟨h2.1, by have := h2.2; simp at this; exact this.symm⟩
          · rintro ⟨h1, h2⟩; rw [h1, h2]
        generalize hx : who[k] = v at *
        cases sm with
        | false =>
          have hno : ¬ (who.length = (readersOf p.mem).length ∧ who.take (k + 1) = (readersOf p.mem).take (k + 1)) := fun h => by
            have := hsm.2 ⟨h.1, ((htk (by omega)).1 h.2).1⟩
            cases this
          refine RunB ?_ trivial trivial trivial trivial trivial trivial MkB.ok trivial trivial trivial trivial trivial
          refine ALoopW_normal ⟨k + 1, n + 1, cs ++ [.int .i64 v, .sl .full zz48 48], nx, false, [_, _, _, _, _, _, _, _, _, _, _, _, _, _, _, _, _, _, _, _, _, _, _, _]⟩ rfl ?hs1 ?hi1 ?hm1
          case hs1 => first | exact ASub.refl _ | exact (ASub.refl _).drop (by simp only [alook]; repeat (first | rw [if_neg (by omega)]))
          case hi1 => exact ⟨by omega, by omega, by rw [hs1, hcs], ⟨fun h => (by cases h), fun h => (hno h).elim⟩, by omega⟩
          case hm1 => simp only; omega
        | true =>
          have hsl := hsm.1 rfl
          have hr : k < (readersOf p.mem).length := by omega
          have c1 := inA_get hr
          have htk2 := htk hr
          clear htk
          generalize hy : (readersOf p.mem)[k] = u at *
          by_cases he : u = v
          · refine RunB ?_ trivial trivial trivial trivial trivial trivial MkB.ok trivial trivial trivial trivial trivial
            refine ALoopW_normal ⟨k + 1, n + 1, cs ++ [.int .i64 v, .sl .full zz48 48], nx, true, [_, _, _, _, _, _, _, _, _, _, _, _, _, _, _, _, _, _, _, _, _, _, _, _]⟩ rfl ?hs1 ?hi1 ?hm1
            case hs1 => first | exact ASub.refl _ | exact (ASub.refl _).drop (by simp only [alook]; repeat (first | rw [if_neg (by omega)]))
            case hi1 => exact ⟨by omega, by omega, by rw [hs1, hcs], ⟨fun _ => ⟨hsl.1, htk2.2 ⟨hsl.2, he⟩⟩, fun _ => rfl⟩, by omega⟩
            case hm1 => simp only; omega
          · refine RunB ?_ trivial trivial trivial trivial trivial trivial MkB.ok trivial trivial trivial trivial trivial
            refine ALoopW_normal ⟨k + 1, n + 1, cs ++ [.int .i64 v, .sl .full zz48 48], nx, false, [_, _, _, _, _, _, _, _, _, _, _, _, _, _, _, _, _, _, _, _, _, _, _, _]⟩ rfl ?hs1 ?hi1 ?hm1
            case hs1 => first | exact ASub.refl _ | exact (ASub.refl _).drop (by simp only [alook]; repeat (first | rw [if_neg (by omega)]))
            case hi1 => exact ⟨by omega, by omega, by rw [hs1, hcs], ⟨fun h => (by cases h), fun h => (he (htk2.1 h.2).2).elim⟩, by omega⟩
            case hm1 => simp only; omega
      · obtain rfl : k = who.length := by omega
        rw [List.take_length] at hcs hsm
        subst hcs hn
        have hsm2 : sm = true ↔ who = readersOf p.mem := by
          rw [hsm]
          constructor
          · rintro ⟨h1, h2⟩; rw [h1, List.take_length] at h2; exact h2
          · intro h; rw [← h]; exact ⟨rfl, by rw [List.take_length]⟩
        by_cases hok : EnOk (rotE ep who)
        · rw [decide_eq_true hok] at hRx
          have hmay := rot_may hp hfo hok
          have hfit := rot_fits (p := p) (ep := ep) (l := who) hep
          by_cases hft : Fits p (rotE ep who)
          · obtain ⟨rfl, hwr⟩ := hfit.1 hft
            obtain rfl := hsm2.2 hwr
            rw [hmay, if_pos hft, if_pos rfl] at hAx
            have hqe := poApp_epoch p (rotE 1 who)
            rw [if_pos (show (rotE 1 who).kind = 5 from rfl)] at hqe
            have hqe1 : (poApp p (rotE 1 who)).epoch = 1 := hqe
            generalize poApp p (rotE 1 who) = q at *
            refine RunB ?_ trivial trivial trivial trivial trivial trivial trivial trivial trivial @both_wk trivial trivial
            rfl
          · rw [hmay, if_neg hft, if_neg (by decide)] at hAx
            have hAz : AVal Try.prog 30 [poA p, .agg [.int .i64 5, .int .i64 1, .int .i64 1, .sl .none [] 0, .sl .none [] 0, .int .i64 0, .int .i64 0, .int .i64 ep, .sl .none (wpCs (wp48 who)) who.length]] (.tup [.agg [.int .i64 0, .int .i64 0, .sl .none [] 0], .int .i64 34]) := hAx
            clear hAx
            cases sm with
            | false =>
              refine RunB ?_ trivial trivial trivial trivial trivial trivial trivial trivial trivial @both_wk trivial trivial
              rfl
            | true =>
              have he1 : ¬ ep = 1 := fun h => hft (hfit.2 ⟨h, hsm2.1 rfl⟩)
              refine RunB ?_ trivial trivial trivial trivial trivial trivial trivial trivial trivial @both_wk trivial trivial
              rfl
        · rw [decide_eq_false hok] at hRx
          have h10 : mayN p (rotE ep who) = 10 := by unfold mayN; rw [if_pos (fun g => hok g.2)]
          rw [h10, if_neg (by decide)] at hAx
          have hAz : AVal Try.prog 30 [poA p, .agg [.int .i64 5, .int .i64 1, .int .i64 1, .sl .none [] 0, .sl .none [] 0, .int .i64 0, .int .i64 0, .int .i64 ep, .sl .none (wpCs (wp48 who)) who.length]] (.tup [.agg [.int .i64 0, .int .i64 0, .sl .none [] 0], .int .i64 10]) := hAx
          clear hAx
          refine RunB ?_ trivial trivial trivial trivial trivial trivial trivial trivial trivial @both_wk trivial trivial
          rfl
theorem PolicyRotates_walk (w : World) (A : Option Addr) (n c : Nat) (l : List Int) (hl : RSlice 1 (RInt .i64) w [.slice A n c] l) (ep : Int) (he : (Lit.int .i64 ep).wf = true) (A2 : Option Addr) (n2 c2 : Nat) (ws : List Int) (hr : RSlice 1 (RInt .i64) w [.slice A2 n2 c2] ws) : Calls Try.prog 14 #[.slice A n c, .int .i64 ep, .slice A2 n2 c2] w (Tells w true) := (PolicyRotates_law l ep ws (RInts.repsA hl).2 (RInts.repsA hr).2).tells (.cons (RInts.repsA hl).1 (.cons Reps_int (.one (RInts.repsA hr).1)))
end Go.Proofs.Ytaffpkogcpkmjaa
