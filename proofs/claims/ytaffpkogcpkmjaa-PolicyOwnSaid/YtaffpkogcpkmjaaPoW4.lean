/- Law 10: PolicyOwn. -/
import Derived.Test.YtaffpkogcpkmjaaPoO
import Derived.Test.YtaffpkogcpkmjaaEnM
import Derived.Test.YtaffpkogcpkmjaaShr
namespace Go.Proofs.Ytaffpkogcpkmjaa
open Go.RowKit
set_option linter.unusedVariables false
set_option linter.unusedSimpArgs false
set_option maxRecDepth 10000
set_option maxHeartbeats 20000000 in
theorem PolicyOwn_law (f : Int) (l : List En) (hm : l.length ≤ 9223372036854775807) (hl : ∀ e ∈ l, e.wraps.length ≤ 9223372036854775807) : ACalls Try.prog 12 [.int .i64 f, ensA l] ⟨[], [], 0⟩ (fun rv _ => rv = .bool true) := by
  refine ACalls_body Try.func12 rfl rfl ?_
  simp only [Try.ntmps12, List.length_cons, List.length_nil, Nat.reduceAdd, Nat.reduceSub, List.replicate_succ, List.replicate_zero, List.cons_append, List.nil_append]
  by_cases hbig : 30 < l.length
  · refine RunB ?_ trivial trivial @anchor10_val trivial trivial trivial trivial trivial trivial trivial trivial trivial
    rfl
  by_cases hf : ¬ (1 ≤ f ∧ f ≤ 16)
  · have hF : AVal Try.prog 27 [.int .i64 f] (.tup [.agg [.int .i64 0, .int .i64 0, .sl .none [] 0], .int .i64 10]) := by
      have := first_val f
      unfold firstR at this
      rw [if_neg hf] at this
      exact this
    refine RunB ?_ trivial trivial @anchor10_val trivial trivial trivial trivial trivial trivial trivial trivial trivial
    rfl
  have hf : 1 ≤ f ∧ f ≤ 16 := Classical.byContradiction hf
  have hF : AVal Try.prog 27 [.int .i64 f] (.tup [.agg [.int .i64 f, .int .i64 0, .sl .none [.int .i64 f, .int .i64 7] 1], .int .i64 0]) := by
    have := first_val f
    unfold firstR at this
    rw [if_pos hf] at this
    exact this
  refine RunB ?_ trivial trivial @anchor10_val trivial trivial trivial trivial trivial trivial trivial trivial trivial
  refine AWP_loopW [4, 8, 9, 10, 11, 12, 13, 14, 27, 28, 29, 30, 31, 32, 33, 34, 35, 36, 37, 38, 39, 40, 41, 42, 43, 44, 45, 46, 47, 48, 49, 50, 51, 52, 53, 54, 55, 56, 57, 58, 59, 60, 61, 62, 63, 64, 65, 66, 67, 68, 69, 70, 71, 72, 73, 74, 75, 76, 77, 78, 79, 80, 81, 82, 83, 84, 85, 86, 87, 88, 89, 90, 91] (N := Nat × Int × Po × List AV) (fun ⟨k, nx, p, js⟩ => [js.getD 0 .und, js.getD 1 .und, js.getD 2 .und, js.getD 3 .und, js.getD 4 .und, js.getD 5 .und, js.getD 6 .und, js.getD 7 .und, ensA l, .int .i64 (l.length : Int), .int .i64 (k : Int), js.getD 8 .und, js.getD 9 .und, js.getD 10 .und, js.getD 11 .und, js.getD 12 .und, js.getD 13 .und, js.getD 14 .und, js.getD 15 .und, js.getD 16 .und, js.getD 17 .und, js.getD 18 .und, js.getD 19 .und, js.getD 20 .und, js.getD 21 .und, js.getD 22 .und, js.getD 23 .und, js.getD 24 .und, js.getD 25 .und, js.getD 26 .und, js.getD 27 .und, js.getD 28 .und, js.getD 29 .und, js.getD 30 .und, js.getD 31 .und, js.getD 32 .und, js.getD 33 .und, js.getD 34 .und, js.getD 35 .und, js.getD 36 .und, js.getD 37 .und, js.getD 38 .und, js.getD 39 .und, js.getD 40 .und, js.getD 41 .und, js.getD 42 .und, js.getD 43 .und, js.getD 44 .und, js.getD 45 .und, js.getD 46 .und, js.getD 47 .und, js.getD 48 .und, js.getD 49 .und, js.getD 50 .und, js.getD 51 .und, js.getD 52 .und, js.getD 53 .und, js.getD 54 .und, js.getD 55 .und, js.getD 56 .und, js.getD 57 .und, js.getD 58 .und, js.getD 59 .und, js.getD 60 .und, js.getD 61 .und, js.getD 62 .und, js.getD 63 .und, js.getD 64 .und, js.getD 65 .und, js.getD 66 .und, js.getD 67 .und, js.getD 68 .und, js.getD 69 .und]) (fun ⟨k, nx, p, js⟩ => ⟨[(0, [.int .i64 p.founder, .int .i64 p.epoch, mbA p.mem])], [], nx⟩) (fun ⟨k, nx, p, js⟩ => k ≤ l.length ∧ PoOk p ∧ p.founder = f ∧ 1 ≤ nx) (fun ⟨k, nx, p, js⟩ => l.length - k) ⟨0, 1, p1 f, [_, _, _, _, _, _, _, _, _, _, _, _, _, _, _, _, _, _, _, _, _, _, _, _, _, _, _, _, _, _, _, _, _, _, _, _, _, _, _, _, _, _, _, _, _, _, _, _, _, _, _, _, _, _, _, _, _, _, _, _, _, _, _, _, _, _, _, _, _, _]⟩ rfl ?hs0 ?hi0 ?_
  rotate_left 2
  rintro ⟨k, nx, p, js⟩ sl_ hs hi
  simp only [setsF, setF, Option.some.injEq] at hs
  subst hs
  case hs0 => exact ASub.refl _
  case hi0 => exact ⟨by omega, (p1_ok f).2 hf, rfl, by omega⟩
  obtain ⟨hk, hp, hfo, hnx⟩ := hi
  by_cases hlt : k < l.length
  · have hel : l[k]? = some l[k] := List.getElem?_eq_getElem hlt
    have hcl := enCs_load hel
    have hwl := hl _ (List.getElem_mem hlt)
    generalize hx : l[k] = e at *
    have hS := smallE_val e hwl
    by_cases hsm : SmallE e
    · rw [decide_eq_true hsm] at hS
      have hpl := hp.len
      have hw20 : e.wraps.length ≤ 1000 := by have := hsm.2.2.2; omega
      have hA0 := apply_val p e (by omega) hsm.mid hw20
      unfold apR apP at hA0
      by_cases hmay : mayN p e = 0
      · rw [hmay, if_pos rfl] at hA0
        have hB0 := apply_buf p e (by omega) hsm.mid hw20 hmay
        have hqo := poApp_ok hmay
        have hqf := poApp_founder p e
        generalize poApp p e = q at *
        have hA : Veil (AVal Try.prog 30 [poA p, enA e] (.tup [poA q, .int .i64 0])) := ⟨hA0⟩
        have hB : Veil (ABuf Try.prog 30 [poA p, enA e] (poR q) (mbCs q.mem) q.mem.length 2) := ⟨hB0⟩
        clear hA0 hB0
        have hp7 := hp.2.2.2
        rw [hfo] at hp7
        have hql := hqo.len
        have r1 := rights_val p f (by omega)
        rw [hp7] at r1
        have r2 := rights_val p e.who (by omega)
        have hrg := rightsOf_range (ms := p.mem) e.who hp.1.each
        have r3 := poright_val p (by omega)
        rw [decide_eq_true hp] at r3
        have r4 := poright_val q (by omega)
        rw [decide_eq_true hqo] at r4
        refine RunB ?_ trivial trivial trivial trivial trivial trivial trivial trivial trivial trivial trivial trivial
        with_reducible apply R_call_val
        case hf => rfl
        case ha => rfl
        case h => exact hA.out
        case hc => exact (fun vs w => by kernel_rfl)
        case hs => exact aput_ok rfl
        refine RunB ?_ trivial trivial trivial trivial trivial trivial trivial trivial trivial trivial trivial trivial
        with_reducible apply R_call_k
        case hf => rfl
        case ha => rfl
        case hc => exact (fun vs w => by kernel_rfl)
        case h => exact hB.out _
        rintro _ _ ⟨j, hrv, hsg⟩
        dsimp only at hrv hsg
        subst hrv hsg
        refine RunB ?_ trivial trivial trivial trivial trivial trivial trivial trivial trivial trivial trivial trivial
        refine AWP_loopS [14, 59, 60, 61, 62, 63, 64, 65, 66, 67, 68, 69] (N := Nat × List AV × List AV) (fun ⟨i, cs, js⟩ => [js.getD 0 .und, .buf (nx + 1 + 1) 0 q.mem.length (q.mem.length + j), .int .i64 (q.mem.length : Int), .int .i64 (i : Int), js.getD 1 .und, js.getD 2 .und, js.getD 3 .und, js.getD 4 .und, js.getD 5 .und, js.getD 6 .und, js.getD 7 .und, js.getD 8 .und]) (fun ⟨i, cs, js⟩ => ⟨[(nx + 1 + 1 + 1, [.int .i64 q.founder, .int .i64 q.epoch, .buf (nx + 1 + 1) 0 q.mem.length (q.mem.length + j)]), (nx + 1 + 1, cs), (nx + 1, [.int .i64 q.founder, .int .i64 q.epoch, mbA q.mem]), (nx, enC e), (0, [.int .i64 p.founder, .int .i64 p.epoch, mbA p.mem])], [], nx + 1 + 1 + 1 + 1⟩) (fun ⟨i, cs, js⟩ => i ≤ q.mem.length ∧ cs.length = q.mem.length * 2 + j * 2) (fun ⟨i, cs, js⟩ => q.mem.length - i) ⟨0, _, [_, _, _, _, _, _, _, _, _]⟩ rfl rfl ?hi0 ?_
        rotate_left
        rintro ⟨i, cs, js⟩ sl_ hs hi
        simp only [setsF, setF, Option.some.injEq] at hs
        subst hs
        case hi0 => exact ⟨by omega, mb_full q.mem j⟩
        obtain ⟨hi1, hcl2⟩ := hi
        by_cases hil : i < q.mem.length
        · have hle : i * 2 + 1 < cs.length := by omega
          refine RunB ?_ trivial trivial trivial trivial trivial trivial trivial trivial trivial trivial trivial trivial
          refine ALoopQ_normal ⟨i + 1, _, [_, _, _, _, _, _, _, _, _]⟩ rfl rfl ?hi1 ?hm1
          case hi1 => exact ⟨by omega, by rw [List.length_set]; exact hcl2⟩
          case hm1 => simp only; omega
        · obtain rfl : i = q.mem.length := by omega
          refine RunB ?_ trivial trivial trivial trivial trivial trivial trivial trivial trivial trivial trivial trivial
          refine ALoopW_normal ⟨k + 1, nx + 1 + 1 + 1 + 1, q, [_, _, _, _, _, _, _, _, _, _, _, _, _, _, _, _, _, _, _, _, _, _, _, _, _, _, _, _, _, _, _, _, _, _, _, _, _, _, _, _, _, _, _, _, _, _, _, _, _, _, _, _, _, _, _, _, _, _, _, _, _, _, _, _, _, _, _, _, _, _]⟩ rfl ?hs1 ?hi1 ?hm1
          case hs1 => exact ((((ASub.refl _).drop (by simp only [alook]; repeat (first | rw [if_neg (by omega)]))).drop (by simp only [alook]; repeat (first | rw [if_neg (by omega)]))).drop (by simp only [alook]; repeat (first | rw [if_neg (by omega)]))).drop (by simp only [alook]; repeat (first | rw [if_neg (by omega)]))
          case hi1 => exact ⟨by omega, hqo, by rw [hqf]; exact hfo, by omega⟩
          case hm1 => simp only; omega
      · rw [if_neg hmay] at hA0
        have hA : AVal Try.prog 30 [poA p, enA e] (.tup [.agg [.int .i64 0, .int .i64 0, .sl .none [] 0], .int .i64 (mayN p e)]) := hA0
        clear hA0
        refine RunB ?_ trivial trivial trivial trivial trivial trivial trivial trivial trivial trivial trivial trivial
        refine ALoopW_normal ⟨k + 1, nx + 1 + 1, p, [_, _, _, _, _, _, _, _, _, _, _, _, _, _, _, _, _, _, _, _, _, _, _, _, _, _, _, _, _, _, _, _, _, _, _, _, _, _, _, _, _, _, _, _, _, _, _, _, _, _, _, _, _, _, _, _, _, _, _, _, _, _, _, _, _, _, _, _, _, _]⟩ rfl ?hs1 ?hi1 ?hm1
        case hs1 => exact ((ASub.refl _).drop (by simp only [alook]; repeat (first | rw [if_neg (by omega)]))).drop (by simp only [alook]; repeat (first | rw [if_neg (by omega)]))
        case hi1 => exact ⟨by omega, hp, hfo, by omega⟩
        case hm1 => simp only; omega
    · rw [decide_eq_false hsm] at hS
      refine RunB ?_ trivial trivial trivial trivial trivial trivial trivial trivial trivial trivial trivial trivial
      rfl
  · obtain rfl : k = l.length := by omega
    refine RunB ?_ trivial trivial trivial trivial trivial trivial trivial trivial trivial trivial trivial trivial
    rfl
theorem PolicyOwn_walk (w : World) (f : Int) (hf : (Lit.int .i64 f).wf = true) (A : Option Addr) (n c : Nat) (l : List En) (hl : RSlice 9 REn w [.slice A n c] l) : Calls Try.prog 12 #[.int .i64 f, .slice A n c] w (Tells w true) := (PolicyOwn_law f l (REntries.repsA hl).2.1 (REntries.repsA hl).2.2).tells (.cons Reps_int (.one (REntries.repsA hl).1))
end Go.Proofs.Ytaffpkogcpkmjaa
