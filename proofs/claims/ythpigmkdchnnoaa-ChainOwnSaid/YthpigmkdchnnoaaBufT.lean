/- The abstract machine: append of a buffer onto a slice with room. -/
import Derived.Test.YthpigmkdchnnoaaBuf2
namespace Go.Proofs.Ythpigmkdchnnoaa
open Go.RowKit
set_option linter.unusedVariables false
set_option linter.unusedSimpArgs false
variable {base : Nat} {Fi : Int → Prop} {M : MM} {w w' : World}
variable {P : Program} {ops : Array Oper} {r : List Oper} {sl sl' : List AV} {σ σ' : ASt} {Q : Exit → List AV → ASt → Prop}
variable {dst : Option Tmp} {ty : TypeId} {pos : String} {after : Array Edge} {x y z : Operand} {objs : List (Int × List AV)} {toks : List (Int × Tq)} {next : Int}
theorem E_append_tokS {t e tx : TypeId} {sz by_ top : Nat} {id : Int} {cells cells2 : List AV} {n m : Nat} {av : AV} {toks' : List (Int × Tq)} (hx : aev sl x = .sl (.tok id top sz) cells n) (hy : aev sl y = av) [T : TySl P t e sz by_] (htk : alook σ.toks id = some (.top top)) (hS : SrcS P sz tx av cells2 m σ) (hb : (n + m) * by_ ≤ 140737488355328 ∧ n + m ≤ 1000000000000) (ht : aset σ.toks id (.top (top + m)) = toks') : EffOk P ⟨dst, .call { callee := .builtin .append, args := #[x, y], argTypes := #[t, tx] }, ty, pos, after, none⟩ sl σ (.sl (.tok id (top + m) sz) (cells ++ cells2) (n + m)) ⟨σ.objs, toks', σ.next⟩ := fun base Fi M a w hr => by
    have h1 := ev1 hr.2.1 hx
    have h2 := ev1 hr.2.1 hy
    have S := hr.2.2
    subst ht
    unfold Reps at h1
    obtain ⟨A, c, vs, h1, k2, k3, k4, k5, k6, k7, T0, l1, l2, l3, l4, l5⟩ := h1
    obtain ⟨hF, T0', l6, l7, l8⟩ := S.tks id top htk
    rw [l1] at l6; cases l6
    have l5 := l5 l7.symm
    subst l2
    obtain ⟨news, h3, h4⟩ := hS _ _ M w _ S h2
    have hnl := h3.newsLen
    have hidlt : id < σ.next := by
      refine Int.lt_of_not_ge fun hle => ?_
      rw [(S.fresh id hle).2.1] at l1; cases l1
    have htks : ∀ i (tp : Tq), alook (aset σ.toks id (.top (top + m))) i = some tp → (i = id ∧ tp = .top (top + m)) ∨ (i ≠ id ∧ alook σ.toks i = some tp) := by
      intro i tp h
      rw [alook_aset, htk] at h
      split at h
      · rename_i he; simp at h; exact .inl ⟨he.symm, h.symm⟩
      · rename_i he; exact .inr ⟨Ne.symm he, h⟩
    by_cases hm : m = 0
    · subst hm
      obtain rfl : news = [] := List.eq_nil_of_length_eq_zero (by omega)
      obtain rfl : cells2 = [] := List.eq_nil_of_length_eq_zero (by have := h4.length; simpa using this.symm)
      obtain ⟨i, z, hi, hz, hsz, hby, hzs⟩ := T.info
      rw [← hsz] at h3
      refine ⟨_, w, M, .inl (exec_append h1 rfl (run_append_nothing w t tx ty e i T.und hi A n c k2 _ h3)), ?_, ?_, Stp.refl _ _ _ _⟩
      · unfold Reps
        exact ⟨A, c, vs, rfl, k2, k3, k4, k5, by simpa using k6, by simpa using k7, T0, l1, rfl, by omega, by simpa using l4, fun _ => by simpa using l5⟩
      · refine ⟨S.base_le, S.obs, fun i tp h => ?_, fun i sh kvs h => ?_, S.inj, S.dis, S.tinj, S.obsz, S.tksz, S.fresh⟩
        · rcases htks i _ h with ⟨rfl, h0⟩ | ⟨_, h'⟩
          · cases h0; exact S.tks i _ htk
          · exact S.tks i tp h'
        · rcases htks i _ h with ⟨_, h0⟩ | ⟨_, h'⟩
          · cases h0
          · exact S.mps i sh kvs h'
    · by_cases hroom : n + m ≤ c
      · cases hblk : T0.blk with
        | none => rw [hblk] at l5; simp at l5; omega
        | some q =>
          obtain ⟨b, eo, ce⟩ := q
          rw [hblk] at l5
          obtain ⟨o, rfl, l9, l10⟩ := l5
          obtain ⟨l11, l12⟩ := l8 b eo ce hblk
          obtain ⟨i, z, hi, hz, hsz, hby, hzs⟩ := T.info
          have hle : o + n * T0.sz + news.length ≤ ce := by
            rw [hnl, ← l10, Nat.add_assoc, ← Nat.add_mul]; exact Nat.add_le_add_left (Nat.mul_le_mul_right _ hroom) _
          have heo : o + n * i.size = eo := by rw [hsz, ← l4]; exact l9
          have heo2 : o + n * T0.sz = eo := by rw [← l4]; exact l9
          have hle2 : eo + news.length ≤ ce := by rw [← heo2]; exact hle
          clear hle
          rw [← hsz] at h3
          have hrun := run_append_room_src w t tx ty e i T.und hi b o n c _ m news h3 hroom (fun j hj => by rw [heo]; exact (l12.cell (eo + j) (by omega)).1) (fun j hj => by rw [heo]; exact (l12.cell (eo + j) (by omega)).2)
          rw [heo] at hrun
          have hT := room_stp S htk l1 hblk news (m := m) (by omega)
          rw [l7] at hT
          have hSt := room_st S htk l1 hblk news (m := m) (by omega)
          rw [l7] at hSt
          refine ⟨_, _, _, .inl (exec_append h1 rfl hrun), ?_, hSt, hT⟩
          unfold Reps
          have hmem : n = 0 ∨ Mem M w b o vs := k5.imp (fun h => h) fun ⟨b', o', hA, hm⟩ => by cases hA; exact hm
          refine ⟨_, c, vs ++ news, rfl, hroom, k3, (fun h => by cases h), .inr ⟨b, o, rfl, fun j u hu => ?_⟩, (RepsL.stp hT _ _ k6).append (RepsL.stp hT _ _ h4), fun h0 => by omega, ?_⟩
          · have hvl : vs.length = n * T0.sz := by rw [k6.length, l4]
            by_cases hj : j < vs.length
            · rw [List.getElem?_append_left hj] at hu
              rcases hmem with rfl | hmem
              · rw [Nat.zero_mul] at hvl; omega
              · exact hT.cell b (o + j) u (hmem j u hu).2 (hmem j u hu).1
            · rw [List.getElem?_append_right (by omega)] at hu
              have hj' := (List.getElem?_eq_some_iff.1 hu).1
              have hin := World.cell?_setCells_in b news eo w (fun q hq => (l12.cell (eo + q) (by omega)).1) (j - vs.length) hj'
              rw [show eo + (j - vs.length) = o + j by omega] at hin
              refine ⟨by rw [hin]; rw [List.getElem?_eq_getElem hj'] at hu; exact hu, ?_, ?_⟩
              · intro id' h; exact (S.dis id' id b T0 eo ce h l1 hblk).elim
              · intro id' T2 e' ce' g1 g2
                simp only [MM.tok] at g1
                split at g1
                · cases g1; simp at g2; obtain ⟨rfl, rfl⟩ := g2; omega
                · rename_i hne; exact absurd (S.tinj id' id T2 T0 b e' ce' eo ce g1 l1 g2 hblk) hne
          · refine ⟨⟨T0.sz, top + m, some (b, eo + news.length, ce)⟩, by simp [MM.tok], rfl, Nat.le_refl _, ?_, fun _ => ⟨o, rfl, ?_, l10⟩⟩
            · simp only [List.length_append, l4, ← h4.length, hnl, Nat.add_mul]
            · simp only [List.length_append, l4, ← h4.length]; omega
      · obtain ⟨v, w', M', h5, h6, h7, h8⟩ := grow_core (ty := ty) S (t := t) k2 k3 k5 k4 k6 l4 h3 h4 (by omega) (by simp only [maxLen]; omega) hb.1 (id := id) (top' := top + m) (.inr ⟨T0, l1, rfl, by omega, hF⟩) (toks := aset σ.toks id (.top (top + m))) (next := σ.next) htks (Int.le_refl _) hidlt
        exact ⟨v, w', M', .inl (exec_append h1 rfl h5), h6, h7, h8⟩
theorem T_append_tokS {t e tx : TypeId} {sz by_ top : Nat} {id : Int} {cells cells2 : List AV} {n m : Nat} {av : AV} {toks' : List (Int × Tq)} (hx : aev sl x = .sl (.tok id top sz) cells n) (hy : aevo sl y = some av) [T : TySl P t e sz by_] (htk : alook toks id = some (.top top)) (hS : SrcS P sz tx av cells2 m ⟨objs, toks, next⟩) (hb : (n + m) * by_ ≤ 140737488355328 ∧ n + m ≤ 1000000000000) (ht : asetF toks id (.top (top + m)) = some toks') (hs : aput sl dst (.sl (.tok id (top + m) sz) (cells ++ cells2) (n + m)) = sl') (h : AOPS P ops r sl' ⟨objs, toks', next⟩ Q) : AOPS P ops (⟨dst, .call { callee := .builtin .append, args := #[x, y], argTypes := #[t, tx] }, ty, pos, after, none⟩ :: r) sl ⟨objs, toks, next⟩ Q :=
  AOPS_eff rfl (E_append_tokS hx (aevo_eq hy) htk hS hb (asetF_ok ht)) hs h
end Go.Proofs.Ythpigmkdchnnoaa
