/- The Reader's methods, by the abstract machine: Number, Text, Bad, End; Read. -/
import Derived.Test.YtnjkklkjlloedaaRdB
namespace Go.Proofs.Ytnjkklkjlloedaa
open Go.RowKit
set_option linter.unusedVariables false
set_option linter.unusedSimpArgs false
set_option maxRecDepth 10000
theorem num_mth (l : List UInt8) (bad : Bool) (least most : Int) : AMth Try.prog 56 (rdC l bad) [.int .i64 least, .int .i64 most] (.int .i64 (rnum least most (l, bad)).1) (rdC (rnum least most (l, bad)).2.1 (rnum least most (l, bad)).2.2) := by
  refine AMth.mk (by simp [AV.shutL, AV.shut]) (rdC_shut _ _) (by simp [AV.shut]) (rdC_shut _ _) ?_
  refine ACalls_body Try.func56 rfl rfl ?_
  simp only [Try.ntmps56, List.length_cons, List.length_nil, Nat.reduceAdd, Nat.reduceSub, List.replicate_succ, List.replicate_zero, List.cons_append, List.nil_append]
  obtain ⟨n, l', b', hg⟩ : ∃ n l' b', rget 6 (l, bad) = (n, (l', b')) := ⟨_, _, _, rfl⟩
  have hG : AMth Try.prog 80 (rdC l bad) [.int .i64 (6 : Int)] (.int .i64 (n : Int)) (rdC l' b') := by
    have := get_mth l bad 6 (by omega)
    rw [hg] at this
    exact this
  have hr : rnum least most (l, bad) = if b' = true ∨ (n : Int) < least ∨ most < (n : Int) then (0, (l', true)) else ((n : Int), (l', b')) := by unfold rnum; rw [hg]
  rw [hr]
  cases b' with
  | true =>
    rw [if_pos (.inl rfl)]
    refine Run ?_ trivial trivial trivial trivial trivial trivial trivial trivial trivial trivial trivial trivial
    exact ⟨.inl rfl, Int.le_refl _, _, rfl, .inl rfl⟩
  | false =>
    by_cases h1 : (n : Int) < least
    · rw [if_pos (.inr (.inl h1))]
      refine Run ?_ trivial trivial trivial trivial trivial trivial trivial trivial trivial trivial trivial trivial
      exact ⟨.inl rfl, Int.le_refl _, _, rfl, .inl rfl⟩
    · by_cases h2 : most < (n : Int)
      · rw [if_pos (.inr (.inr h2))]
        refine Run ?_ trivial trivial trivial trivial trivial trivial trivial trivial trivial trivial trivial trivial
        exact ⟨.inl rfl, Int.le_refl _, _, rfl, .inl rfl⟩
      · rw [if_neg (by simp; omega)]
        refine Run ?_ trivial trivial trivial trivial trivial trivial trivial trivial trivial trivial trivial trivial
        exact ⟨.inl rfl, Int.le_refl _, _, rfl, .inl rfl⟩
theorem text_mth (l : List UInt8) (bad : Bool) (least most : Int) : AMth Try.prog 58 (rdC l bad) [.int .i64 least, .int .i64 most] (bsA (rtext least most (l, bad)).1) (rdC (rtext least most (l, bad)).2.1 (rtext least most (l, bad)).2.2) := by
  refine AMth.mkw (by simp [AV.shutL, AV.shut]) (rdC_shut _ _) (bsA_shut _) (rdC_shut _ _) ?_
  refine ACalls_body Try.func58 rfl rfl ?_
  simp only [Try.ntmps58, List.length_cons, List.length_nil, Nat.reduceAdd, Nat.reduceSub, List.replicate_succ, List.replicate_zero, List.cons_append, List.nil_append]
  obtain ⟨n, l', b', hg⟩ : ∃ n l' b', rget 2 (l, bad) = (n, (l', b')) := ⟨_, _, _, rfl⟩
  have hG : AMth Try.prog 80 (rdC l bad) [.int .i64 (2 : Int)] (.int .i64 (n : Int)) (rdC l' b') := by
    have := get_mth l bad 2 (by omega)
    rw [hg] at this
    exact this
  have hr : rtext least most (l, bad) = if b' = true ∨ (n : Int) < least ∨ most < (n : Int) then ([], (l', true)) else if l'.length < n then ([], (l', true)) else (l'.take n, (l'.drop n, false)) := by unfold rtext; rw [hg]
  rw [hr]
  cases b' with
  | true =>
    rw [if_pos (.inl rfl)]
    refine Run ?_ trivial trivial trivial trivial trivial trivial trivial trivial trivial trivial trivial trivial
    exact ⟨by simp [aone, AV.wk], Int.le_refl _, _, rfl, .inl rfl⟩
  | false =>
    by_cases h1 : (n : Int) < least
    · rw [if_pos (.inr (.inl h1))]
      refine Run ?_ trivial trivial trivial trivial trivial trivial trivial trivial trivial trivial trivial trivial
      exact ⟨by simp [aone, AV.wk], Int.le_refl _, _, rfl, .inl rfl⟩
    · by_cases h2 : most < (n : Int)
      · rw [if_pos (.inr (.inr h2))]
        refine Run ?_ trivial trivial trivial trivial trivial trivial trivial trivial trivial trivial trivial trivial
        exact ⟨by simp [aone, AV.wk], Int.le_refl _, _, rfl, .inl rfl⟩
      · rw [if_neg (by simp; omega)]
        by_cases h3 : l'.length < n
        · rw [if_pos h3]
          refine Run ?_ trivial trivial @take_bad_mth trivial trivial trivial trivial trivial trivial trivial trivial trivial
          exact ⟨by simp [aone, AV.wk], Int.le_refl _, _, rfl, .inl rfl⟩
        · rw [if_neg h3]
          refine Run ?_ trivial trivial @take_ok_mth trivial trivial trivial trivial trivial trivial trivial trivial trivial
          exact ⟨wk_bs (by rw [List.length_take]; omega), Int.le_refl _, _, rfl, .inl rfl⟩
theorem bad_mth (l : List UInt8) (bad : Bool) : AMth Try.prog 57 (rdC l bad) [] (.bool bad) (rdC l bad) := by
  refine AMth.mk (by simp [AV.shutL, AV.shut]) (rdC_shut _ _) (by simp [AV.shut]) (rdC_shut _ _) ?_
  refine ACalls_body Try.func57 rfl rfl ?_
  simp only [Try.ntmps57, List.length_cons, List.length_nil, Nat.reduceAdd, Nat.reduceSub, List.replicate_succ, List.replicate_zero, List.cons_append, List.nil_append]
  refine Run ?_ trivial trivial trivial trivial trivial trivial trivial trivial trivial trivial trivial trivial
  exact ⟨.inl rfl, Int.le_refl _, _, rfl, .inl rfl⟩
theorem end_mth (l : List UInt8) (bad : Bool) : AMth Try.prog 59 (rdC l bad) [] (.bool (!bad && l.isEmpty)) (rdC l bad) := by
  refine AMth.mk (by simp [AV.shutL, AV.shut]) (rdC_shut _ _) (by simp [AV.shut]) (rdC_shut _ _) ?_
  refine ACalls_body Try.func59 rfl rfl ?_
  simp only [Try.ntmps59, List.length_cons, List.length_nil, Nat.reduceAdd, Nat.reduceSub, List.replicate_succ, List.replicate_zero, List.cons_append, List.nil_append]
  cases bad with
  | true =>
    refine Run ?_ trivial trivial trivial trivial trivial trivial trivial trivial trivial trivial trivial trivial
    exact ⟨.inl rfl, Int.le_refl _, _, rfl, .inl rfl⟩
  | false =>
    cases l with
    | nil =>
      refine Run ?_ trivial trivial trivial trivial trivial trivial trivial trivial trivial trivial trivial trivial
      exact ⟨.inl rfl, Int.le_refl _, _, rfl, .inl rfl⟩
    | cons x l =>
      refine Run ?_ trivial trivial trivial trivial trivial trivial trivial trivial trivial trivial trivial trivial
      exact ⟨.inl rfl, Int.le_refl _, _, rfl, .inl rfl⟩
theorem read_new (l : List UInt8) (hl : l.length ≤ 1000000) : ANew Try.prog 55 [bsA l] (rdC l false) 1 := by
  refine ANew.mkw (by omega) (by simp [AV.shutL, bsA_shut]) (rdC_shut _ _) ?_
  refine ACalls_body Try.func55 rfl rfl ?_
  simp only [Try.ntmps55, List.length_cons, List.length_nil, Nat.reduceAdd, Nat.reduceSub, List.replicate_succ, List.replicate_zero, List.cons_append, List.nil_append]
  refine Run ?_ trivial trivial trivial trivial trivial trivial trivial trivial trivial trivial trivial trivial
  exact ⟨rfl, _, rfl, .inr (by unfold rdC; simp [AV.wkL, AV.wk, AV.wkL_bvA])⟩
end Go.Proofs.Ytnjkklkjlloedaa
