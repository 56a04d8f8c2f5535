/- Law 10: PolicyFounder. -/
import Derived.Test.YtaffpkogcpkmjaaPoO
import Derived.Test.YtaffpkogcpkmjaaEnM
namespace Go.Proofs.Ytaffpkogcpkmjaa
open Go.RowKit
set_option linter.unusedVariables false
set_option linter.unusedSimpArgs false
set_option maxRecDepth 10000
theorem may_admin {p : Po} {e : En} (h : mayN p e = 0) (hk : e.kind = 3 ∨ e.kind = 4 ∨ e.kind = 5) : ¬ rightsOf p.mem e.writer < 4 := by
  intro hr
  have h2 := mayN_ok h
  unfold mayN at h
  rw [if_neg (by rw [Classical.not_not]; exact h2), if_neg (by omega)] at h
  by_cases g : e.kind ≠ 5 ∧ e.who = p.founder
  · rw [if_pos g] at h; cases h
  · rw [if_neg g, if_pos hr] at h; cases h
theorem may_fits {p : Po} {e : En} (h : mayN p e = 0) (hk : e.kind = 5) : Fits p e := by
  have h2 := mayN_ok h
  have h4 := may_admin h (by omega)
  unfold mayN at h
  rw [if_neg (by rw [Classical.not_not]; exact h2), if_neg (by omega), if_neg (fun g => g.1 hk), if_neg h4] at h
  by_cases hf : Fits p e
  · exact hf
  · rw [if_pos ⟨hk, hf⟩] at h; cases h
theorem app_new {p : Po} {e : En} (h : mayN p e = 0) {w : Int} (hn : ¬ rightsOf (poApp p e).mem w = rightsOf p.mem w) : w = e.who ∧ ¬ rightsOf p.mem e.writer < 4 ∧ ¬ w = p.founder := by
  have hp := (mayN_ok h).1
  rw [poApp_rights hp] at hn
  unfold gApp at hn
  by_cases h3 : e.kind = 3 ∧ w = e.who
  · exact ⟨h3.2, may_admin h (.inl h3.1), by rw [h3.2]; exact mayN_founder h (.inl h3.1)⟩
  · rw [if_neg h3] at hn
    by_cases h4 : e.kind = 4 ∧ w = e.who
    · exact ⟨h4.2, may_admin h (.inr (.inl h4.1)), by rw [h4.2]; exact mayN_founder h (.inr h4.1)⟩
    · rw [if_neg h4] at hn; exact absurd rfl hn
theorem app_epoch {p : Po} {e : En} (h : mayN p e = 0) : p.epoch ≤ (poApp p e).epoch ∧ (poApp p e).epoch ≤ p.epoch + 1 := by
  rw [poApp_epoch]
  split
  · rename_i k5
    have := (may_fits h k5).1
    omega
  · omega
set_option maxHeartbeats 20000000 in
theorem PolicyFounder_law (f : Int) (l : List En) (hm : l.length ≤ 9223372036854775807) (hl : ∀ e ∈ l, e.wraps.length ≤ 9223372036854775807) : ACalls Try.prog 11 [.int .i64 f, ensA l] ⟨[], [], 0⟩ (fun rv _ => rv = .bool true) := by
  refine ACalls_body Try.func11 rfl rfl ?_
  simp only [Try.ntmps11, List.length_cons, List.length_nil, Nat.reduceAdd, Nat.reduceSub, List.replicate_succ, List.replicate_zero, List.cons_append, List.nil_append]
  by_cases hbig : 40 < l.length
  · refine RunB ?_ trivial trivial @anchor10_val trivial trivial trivial trivial trivial trivial trivial trivial trivial
    rfl
  by_cases hf : ¬ (1 ≤ f ∧ f ≤ 16)
  · have hF : AVal Try.prog 27 [.int .i64 f] (.tup [.agg [.int .i64 0, .int .i64 0, .sl .none [] 0], .int .i64 10]) := by
      have := first_val f
      unfold firstR at this
      rw [if_neg hf] at this
      exact this
    refine RunB ?_ trivial trivial @anchor10_val trivial trivial trivial trivial trivial trivial trivial trivial trivial
    rfl
  have hf : 1 ≤ f ∧ f ≤ 16 := Classical.byContradiction hf
  have hF : AVal Try.prog 27 [.int .i64 f] (.tup [.agg [.int .i64 f, .int .i64 0, .sl .none [.int .i64 f, .int .i64 7] 1], .int .i64 0]) := by
    have := first_val f
    unfold firstR at this
    rw [if_pos hf] at this
    exact this
  refine RunB ?_ trivial trivial @anchor10_val trivial trivial trivial trivial trivial trivial trivial trivial trivial
  refine AWP_loopW [4, 8, 9, 10, 11, 24, 25, 26, 27, 28, 29, 30, 31, 32, 33, 34, 35, 36, 37, 38, 39, 40, 41, 42, 43, 44, 45, 46, 47, 48, 49, 50, 51, 52, 53, 54, 55, 56, 57, 58, 59, 60, 61, 62, 63, 64, 65, 66, 67, 68, 69, 70, 71, 72, 73, 74, 75, 76, 77, 78, 79, 80, 81, 82, 83, 84, 85, 86, 87, 88, 89, 90] (N := Nat × Int × Po × List AV) (fun ⟨k, nx, p, js⟩ => [js.getD 0 .und, js.getD 1 .und, js.getD 2 .und, js.getD 3 .und, js.getD 4 .und, ensA l, .int .i64 (l.length : Int), .int .i64 (k : Int), js.getD 5 .und, js.getD 6 .und, js.getD 7 .und, js.getD 8 .und, js.getD 9 .und, js.getD 10 .und, js.getD 11 .und, js.getD 12 .und, js.getD 13 .und, js.getD 14 .und, js.getD 15 .und, js.getD 16 .und, js.getD 17 .und, js.getD 18 .und, js.getD 19 .und, js.getD 20 .und, js.getD 21 .und, js.getD 22 .und, js.getD 23 .und, js.getD 24 .und, js.getD 25 .und, js.getD 26 .und, js.getD 27 .und, js.getD 28 .und, js.getD 29 .und, js.getD 30 .und, js.getD 31 .und, js.getD 32 .und, js.getD 33 .und, js.getD 34 .und, js.getD 35 .und, js.getD 36 .und, js.getD 37 .und, js.getD 38 .und, js.getD 39 .und, js.getD 40 .und, js.getD 41 .und, js.getD 42 .und, js.getD 43 .und, js.getD 44 .und, js.getD 45 .und, js.getD 46 .und, js.getD 47 .und, js.getD 48 .und, js.getD 49 .und, js.getD 50 .und, js.getD 51 .und, js.getD 52 .und, js.getD 53 .und, js.getD 54 .und, js.getD 55 .und, js.getD 56 .und, js.getD 57 .und, js.getD 58 .und, js.getD 59 .und, js.getD 60 .und, js.getD 61 .und, js.getD 62 .und, js.getD 63 .und, js.getD 64 .und, js.getD 65 .und, js.getD 66 .und, js.getD 67 .und, js.getD 68 .und]) (fun ⟨k, nx, p, js⟩ => ⟨[(0, [.int .i64 p.founder, .int .i64 p.epoch, mbA p.mem])], [], nx⟩) (fun ⟨k, nx, p, js⟩ => k ≤ l.length ∧ PoOk p ∧ p.founder = f ∧ 1 ≤ nx) (fun ⟨k, nx, p, js⟩ => l.length - k) ⟨0, 1, p1 f, [_, _, _, _, _, _, _, _, _, _, _, _, _, _, _, _, _, _, _, _, _, _, _, _, _, _, _, _, _, _, _, _, _, _, _, _, _, _, _, _, _, _, _, _, _, _, _, _, _, _, _, _, _, _, _, _, _, _, _, _, _, _, _, _, _, _, _, _, _]⟩ rfl ?hs0 ?hi0 ?_
  rotate_left 2
  rintro ⟨k, nx, p, js⟩ sl_ hs hi
  simp only [setsF, setF, Option.some.injEq] at hs
  subst hs
  case hs0 => exact ASub.refl _
  case hi0 => exact ⟨by omega, (p1_ok f).2 hf, rfl, by omega⟩
  obtain ⟨hk, hp, hfo, hnx⟩ := hi
  by_cases hlt : k < l.length
  · have hel : l[k]? = some l[k] := List.getElem?_eq_getElem hlt
    have hcl := enCs_load hel
    have hwl := hl _ (List.getElem_mem hlt)
    generalize hx : l[k] = e at *
    have hS := smallE_val e hwl
    by_cases hsm : SmallE e
    · rw [decide_eq_true hsm] at hS
      have hpl := hp.len
      have hA := apply_val p e (by omega) hsm.mid (by have := hsm.2.2.2; omega)
      unfold apR apP at hA
      by_cases hmay : mayN p e = 0
      · rw [hmay, if_pos rfl] at hA
        have hqo := poApp_ok hmay
        have hqf := poApp_founder p e
        have hqe := app_epoch hmay
        have hqn := fun w : Int => app_new hmay (w := w)
        generalize poApp p e = q at *
        have hq7 := hqo.2.2.2
        rw [hqf, hfo] at hq7
        have hql := hqo.len
        have hep := hp.2.2.1
        have hep0 := hp.2.1
        have hRq := fun w : Int => rights_val q w (by omega)
        have hRp := fun w : Int => rights_val p w (by omega)
        have hRf := hRq f
        rw [hq7] at hRf
        refine RunB ?_ trivial trivial trivial trivial trivial trivial trivial trivial trivial trivial trivial trivial
        refine AWP_loopS [4, 11, 60, 61, 62, 63, 64, 65, 66, 67, 68, 69, 70, 71, 72, 73, 74, 75, 76, 77, 78, 79, 80, 81, 82, 83, 84, 85, 86, 87, 88] (N := Nat × List AV) (fun ⟨w, js⟩ => [js.getD 0 .und, .int .i64 (w : Int), js.getD 1 .und, js.getD 2 .und, js.getD 3 .und, js.getD 4 .und, js.getD 5 .und, js.getD 6 .und, js.getD 7 .und, js.getD 8 .und, js.getD 9 .und, js.getD 10 .und, js.getD 11 .und, js.getD 12 .und, js.getD 13 .und, js.getD 14 .und, js.getD 15 .und, js.getD 16 .und, js.getD 17 .und, js.getD 18 .und, js.getD 19 .und, js.getD 20 .und, js.getD 21 .und, js.getD 22 .und, js.getD 23 .und, js.getD 24 .und, js.getD 25 .und, js.getD 26 .und, js.getD 27 .und, js.getD 28 .und, js.getD 29 .und]) (fun ⟨w, js⟩ => ⟨[(nx + 1, [.int .i64 q.founder, .int .i64 q.epoch, mbA q.mem]), (nx, enC e), (0, [.int .i64 p.founder, .int .i64 p.epoch, mbA p.mem])], [], nx + 1 + 1⟩) (fun ⟨w, js⟩ => 1 ≤ w ∧ w ≤ 17) (fun ⟨w, js⟩ => 17 - w) ⟨1, [_, _, _, _, _, _, _, _, _, _, _, _, _, _, _, _, _, _, _, _, _, _, _, _, _, _, _, _, _, _]⟩ rfl rfl ?hi0 ?_
        rotate_left
        rintro ⟨w, js⟩ sl_ hs hi
        simp only [setsF, setF, Option.some.injEq] at hs
        subst hs
        case hi0 => exact ⟨by omega, by omega⟩
        obtain ⟨hw1, hw17⟩ := hi
        by_cases hwl : w < 17
        · have r1 := hRq w
          have r2 := hRp w
          by_cases hc : rightsOf q.mem w = rightsOf p.mem w
          · refine RunB ?_ trivial trivial trivial trivial trivial trivial trivial trivial trivial trivial trivial trivial
            refine ALoopQ_normal ⟨w + 1, [_, _, _, _, _, _, _, _, _, _, _, _, _, _, _, _, _, _, _, _, _, _, _, _, _, _, _, _, _, _]⟩ rfl rfl ?hi1 ?hm1
            case hi1 => exact ⟨by omega, by omega⟩
            case hm1 => simp only; omega
          · obtain ⟨c1, c2, c3⟩ := hqn w hc
            have r3 := hRp e.writer
            rw [hfo] at c3
            refine RunB ?_ trivial trivial trivial trivial trivial trivial trivial trivial trivial trivial trivial trivial
            refine ALoopQ_normal ⟨w + 1, [_, _, _, _, _, _, _, _, _, _, _, _, _, _, _, _, _, _, _, _, _, _, _, _, _, _, _, _, _, _]⟩ rfl rfl ?hi1 ?hm1
            case hi1 => exact ⟨by omega, by omega⟩
            case hm1 => simp only; omega
        · obtain rfl : w = 17 := by omega
          refine RunB ?_ trivial trivial trivial trivial trivial trivial trivial trivial trivial trivial trivial trivial
          refine ALoopW_normal ⟨k + 1, nx + 1 + 1, q, [_, _, _, _, _, _, _, _, _, _, _, _, _, _, _, _, _, _, _, _, _, _, _, _, _, _, _, _, _, _, _, _, _, _, _, _, _, _, _, _, _, _, _, _, _, _, _, _, _, _, _, _, _, _, _, _, _, _, _, _, _, _, _, _, _, _, _, _, _]⟩ rfl ?hs1 ?hi1 ?hm1
          case hs1 => exact ((ASub.refl _).drop (by simp only [alook]; repeat (first | rw [if_neg (by omega)]))).drop (by simp only [alook]; repeat (first | rw [if_neg (by omega)]))
          case hi1 => exact ⟨by omega, hqo, by rw [hqf]; exact hfo, by omega⟩
          case hm1 => simp only; omega
      · rw [if_neg hmay] at hA
        have hA : AVal Try.prog 30 [poA p, enA e] (.tup [.agg [.int .i64 0, .int .i64 0, .sl .none [] 0], .int .i64 (mayN p e)]) := hA
        refine RunB ?_ trivial trivial trivial trivial trivial trivial trivial trivial trivial trivial trivial trivial
        refine ALoopW_normal ⟨k + 1, nx + 1 + 1, p, [_, _, _, _, _, _, _, _, _, _, _, _, _, _, _, _, _, _, _, _, _, _, _, _, _, _, _, _, _, _, _, _, _, _, _, _, _, _, _, _, _, _, _, _, _, _, _, _, _, _, _, _, _, _, _, _, _, _, _, _, _, _, _, _, _, _, _, _, _]⟩ rfl ?hs1 ?hi1 ?hm1
        case hs1 => exact ((ASub.refl _).drop (by simp only [alook]; repeat (first | rw [if_neg (by omega)]))).drop (by simp only [alook]; repeat (first | rw [if_neg (by omega)]))
        case hi1 => exact ⟨by omega, hp, hfo, by omega⟩
        case hm1 => simp only; omega
    · rw [decide_eq_false hsm] at hS
      refine RunB ?_ trivial trivial trivial trivial trivial trivial trivial trivial trivial trivial trivial trivial
      rfl
  · obtain rfl : k = l.length := by omega
    refine RunB ?_ trivial trivial trivial trivial trivial trivial trivial trivial trivial trivial trivial trivial
    rfl
theorem PolicyFounder_walk (w : World) (f : Int) (hf : (Lit.int .i64 f).wf = true) (A : Option Addr) (n c : Nat) (l : List En) (hl : RSlice 9 REn w [.slice A n c] l) : Calls Try.prog 11 #[.int .i64 f, .slice A n c] w (Tells w true) := (PolicyFounder_law f l (REntries.repsA hl).2.1 (REntries.repsA hl).2.2).tells (.cons Reps_int (.one (REntries.repsA hl).1))
end Go.Proofs.Ytaffpkogcpkmjaa
