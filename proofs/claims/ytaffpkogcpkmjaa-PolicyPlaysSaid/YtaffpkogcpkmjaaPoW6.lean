/- Law 10: PolicyPlays. -/
import Derived.Test.YtaffpkogcpkmjaaPoS
import Derived.Test.YtaffpkogcpkmjaaEnM
namespace Go.Proofs.Ytaffpkogcpkmjaa
open Go.RowKit
set_option linter.unusedVariables false
set_option linter.unusedSimpArgs false
set_option maxRecDepth 10000
set_option maxHeartbeats 20000000 in
theorem PolicyPlays_law (f : Int) (l : List En) (hm : l.length ≤ 9223372036854775807) (hl : ∀ e ∈ l, e.wraps.length ≤ 9223372036854775807) : ACalls Try.prog 9 [.int .i64 f, ensA l] ⟨[], [], 0⟩ (fun rv _ => rv = .bool true) := by
  refine ACalls_body Try.func9 rfl rfl ?_
  simp only [Try.ntmps9, List.length_cons, List.length_nil, Nat.reduceAdd, Nat.reduceSub, List.replicate_succ, List.replicate_zero, List.cons_append, List.nil_append]
  by_cases hbig : 40 < l.length
  · refine RunB ?_ trivial trivial @anchor10_val trivial trivial trivial trivial trivial trivial trivial trivial trivial
    rfl
  by_cases hf : ¬ (1 ≤ f ∧ f ≤ 16)
  · have hF : AVal Try.prog 27 [.int .i64 f] (.tup [.agg [.int .i64 0, .int .i64 0, .sl .none [] 0], .int .i64 10]) := by
      have := first_val f
      unfold firstR at this
      rw [if_neg hf] at this
      exact this
    by_cases g1 : f < 1
    · refine RunB ?_ trivial trivial @anchor10_val trivial trivial trivial trivial trivial trivial trivial trivial trivial
      rfl
    · have g2 : 16 < f := by omega
      refine RunB ?_ trivial trivial @anchor10_val trivial trivial trivial trivial trivial trivial trivial trivial trivial
      rfl
  have hf : 1 ≤ f ∧ f ≤ 16 := Classical.byContradiction hf
  obtain ⟨f1, f2⟩ := id hf
  have hF : AVal Try.prog 27 [.int .i64 f] (.tup [.agg [.int .i64 f, .int .i64 0, .sl .none [.int .i64 f, .int .i64 7] 1], .int .i64 0]) := by
    have := first_val f
    unfold firstR at this
    rw [if_pos hf] at this
    exact this
  have hrF := refFirst10_val f hf
  have hs1 : AVal Try.prog 29 [.agg [.int .i64 f, .int .i64 0, .sl .none [.int .i64 f, .int .i64 7] 1], .agg (rpC f 0 (rightsOf (p1 f).mem))] (.bool true) := same10_val (p1 f) ((p1_ok f).2 hf)
  refine RunB ?_ trivial trivial @anchor10_val trivial trivial trivial trivial trivial trivial trivial trivial trivial
  refine AWP_loopW [4, 9, 10, 11, 12, 13, 48, 49, 50, 51, 52, 53, 54, 55, 56, 57, 58, 59, 60, 61, 62, 63, 64, 65, 66, 67, 68, 69, 70, 71, 72, 73, 74, 75, 76, 77, 78, 79, 80, 81, 82, 83, 84, 85, 86, 87, 88, 89, 90, 91, 92, 93, 94, 95, 96, 97, 98, 99, 100] (N := Nat × Int × Po × List AV) (fun ⟨k, nx, p, js⟩ => [js.getD 0 .und, js.getD 1 .und, js.getD 2 .und, js.getD 3 .und, js.getD 4 .und, js.getD 5 .und, ensA l, .int .i64 (l.length : Int), .int .i64 (k : Int), js.getD 6 .und, js.getD 7 .und, js.getD 8 .und, js.getD 9 .und, js.getD 10 .und, js.getD 11 .und, js.getD 12 .und, js.getD 13 .und, js.getD 14 .und, js.getD 15 .und, js.getD 16 .und, js.getD 17 .und, js.getD 18 .und, js.getD 19 .und, js.getD 20 .und, js.getD 21 .und, js.getD 22 .und, js.getD 23 .und, js.getD 24 .und, js.getD 25 .und, js.getD 26 .und, js.getD 27 .und, js.getD 28 .und, js.getD 29 .und, js.getD 30 .und, js.getD 31 .und, js.getD 32 .und, js.getD 33 .und, js.getD 34 .und, js.getD 35 .und, js.getD 36 .und, js.getD 37 .und, js.getD 38 .und, js.getD 39 .und, js.getD 40 .und, js.getD 41 .und, js.getD 42 .und, js.getD 43 .und, js.getD 44 .und, js.getD 45 .und, js.getD 46 .und, js.getD 47 .und, js.getD 48 .und, js.getD 49 .und, js.getD 50 .und, js.getD 51 .und, js.getD 52 .und, js.getD 53 .und, js.getD 54 .und, js.getD 55 .und]) (fun ⟨k, nx, p, js⟩ => ⟨[(1, rpC p.founder p.epoch (rightsOf p.mem)), (0, [.int .i64 p.founder, .int .i64 p.epoch, mbA p.mem])], [], nx⟩) (fun ⟨k, nx, p, js⟩ => k ≤ l.length ∧ PoOk p ∧ 2 ≤ nx) (fun ⟨k, nx, p, js⟩ => l.length - k) ⟨0, 2, p1 f, [_, _, _, _, _, _, _, _, _, _, _, _, _, _, _, _, _, _, _, _, _, _, _, _, _, _, _, _, _, _, _, _, _, _, _, _, _, _, _, _, _, _, _, _, _, _, _, _, _, _, _, _, _, _, _, _]⟩ rfl ?hs0 ?hi0 ?_
  rotate_left 2
  rintro ⟨k, nx, p, js⟩ sl_ hs hi
  simp only [setsF, setF, Option.some.injEq] at hs
  subst hs
  case hs0 => exact ASub.refl _
  case hi0 => exact ⟨by omega, (p1_ok f).2 hf, by omega⟩
  obtain ⟨hk, hp, hnx⟩ := hi
  by_cases hlt : k < l.length
  · have hel : l[k]? = some l[k] := List.getElem?_eq_getElem hlt
    have hcl := enCs_load hel
    have hwl := hl _ (List.getElem_mem hlt)
    clear hs1 hF hrF
    generalize hx : l[k] = e at *
    have hS := smallE_val e hwl
    by_cases hsm : SmallE e
    · rw [decide_eq_true hsm] at hS
      have hpl := hp.len
      have hw20 : e.wraps.length ≤ 1000 := by have := hsm.2.2.2; omega
      have hA := apply_val p e (by omega) hsm.mid hw20
      have hM := may_val p e (by omega) hsm.mid hw20
      have hE := madeE_val e hw20
      have hR := refRight_val e (by omega)
      have hs2 := same10_val p hp
      unfold apR apP at hA
      by_cases hok : EnOk e
      · rw [decide_eq_true hok] at hR
        have hMr := refMay10_val p e hp hok hw20
        by_cases hmay : mayN p e = 0
        · have hRA := refApply10_val p e hp hok
          rw [hmay, if_pos rfl] at hA
          rw [hmay] at hM hMr
          have hqo := poApp_ok hmay
          generalize poApp p e = q at *
          have hs3 := same10_val q hqo
          refine RunB ?_ trivial trivial trivial trivial trivial trivial trivial trivial trivial trivial trivial trivial
          refine ALoopW_normal ⟨k + 1, nx + 1 + 1 + 1, q, [_, _, _, _, _, _, _, _, _, _, _, _, _, _, _, _, _, _, _, _, _, _, _, _, _, _, _, _, _, _, _, _, _, _, _, _, _, _, _, _, _, _, _, _, _, _, _, _, _, _, _, _, _, _, _, _]⟩ rfl ?hs1 ?hi1 ?hm1
          case hs1 => exact (((ASub.refl _).drop (by simp only [alook]; repeat (first | rw [if_neg (by omega)]))).drop (by simp only [alook]; repeat (first | rw [if_neg (by omega)]))).drop (by simp only [alook]; repeat (first | rw [if_neg (by omega)]))
          case hi1 => exact ⟨by omega, hqo, by omega⟩
          case hm1 => simp only; omega
        · rw [if_neg hmay] at hA
          generalize mayN p e = m at *
          have hAz : AVal Try.prog 30 [poA p, enA e] (.tup [.agg [.int .i64 0, .int .i64 0, .sl .none [] 0], .int .i64 m]) := hA
          clear hA
          refine RunB ?_ trivial trivial trivial trivial trivial trivial trivial trivial trivial trivial trivial trivial
          refine ALoopW_normal ⟨k + 1, nx + 1 + 1 + 1, p, [_, _, _, _, _, _, _, _, _, _, _, _, _, _, _, _, _, _, _, _, _, _, _, _, _, _, _, _, _, _, _, _, _, _, _, _, _, _, _, _, _, _, _, _, _, _, _, _, _, _, _, _, _, _, _, _]⟩ rfl ?hs1 ?hi1 ?hm1
          case hs1 => exact (((ASub.refl _).drop (by simp only [alook]; repeat (first | rw [if_neg (by omega)]))).drop (by simp only [alook]; repeat (first | rw [if_neg (by omega)]))).drop (by simp only [alook]; repeat (first | rw [if_neg (by omega)]))
          case hi1 => exact ⟨by omega, hp, by omega⟩
          case hm1 => simp only; omega
      · rw [decide_eq_false hok] at hR
        have h10 : mayN p e = 10 := by unfold mayN; rw [if_pos (fun g => hok g.2)]
        rw [h10, if_neg (by decide)] at hA
        rw [h10] at hM
        have hAz : AVal Try.prog 30 [poA p, enA e] (.tup [.agg [.int .i64 0, .int .i64 0, .sl .none [] 0], .int .i64 10]) := hA
        clear hA
        refine RunB ?_ trivial trivial trivial trivial trivial trivial trivial trivial trivial trivial trivial trivial
        refine ALoopW_normal ⟨k + 1, nx + 1 + 1 + 1, p, [_, _, _, _, _, _, _, _, _, _, _, _, _, _, _, _, _, _, _, _, _, _, _, _, _, _, _, _, _, _, _, _, _, _, _, _, _, _, _, _, _, _, _, _, _, _, _, _, _, _, _, _, _, _, _, _]⟩ rfl ?hs1 ?hi1 ?hm1
        case hs1 => exact (((ASub.refl _).drop (by simp only [alook]; repeat (first | rw [if_neg (by omega)]))).drop (by simp only [alook]; repeat (first | rw [if_neg (by omega)]))).drop (by simp only [alook]; repeat (first | rw [if_neg (by omega)]))
        case hi1 => exact ⟨by omega, hp, by omega⟩
        case hm1 => simp only; omega
    · rw [decide_eq_false hsm] at hS
      refine RunB ?_ trivial trivial trivial trivial trivial trivial trivial trivial trivial trivial trivial trivial
      rfl
  · obtain rfl : k = l.length := by omega
    refine RunB ?_ trivial trivial trivial trivial trivial trivial trivial trivial trivial trivial trivial trivial
    rfl
theorem PolicyPlays_walk (w : World) (f : Int) (hf : (Lit.int .i64 f).wf = true) (A : Option Addr) (n c : Nat) (l : List En) (hl : RSlice 9 REn w [.slice A n c] l) : Calls Try.prog 9 #[.int .i64 f, .slice A n c] w (Tells w true) := (PolicyPlays_law f l (REntries.repsA hl).2.1 (REntries.repsA hl).2.2).tells (.cons Reps_int (.one (REntries.repsA hl).1))
end Go.Proofs.Ytaffpkogcpkmjaa
