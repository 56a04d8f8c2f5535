/- policy: Apply, by the abstract machine. -/
import Derived.Test.YtaffpkogcpkmjaaPoI
import Derived.Test.YtaffpkogcpkmjaaRunB
namespace Go.Proofs.Ytaffpkogcpkmjaa
open Go.RowKit
set_option linter.unusedVariables false
set_option linter.unusedSimpArgs false
set_option maxRecDepth 10000
def ApK (p : Po) (e : En) (rv : AV) (σ1 : ASt) : Prop := ∃ id j rest, 0 ≤ id ∧ rest.length = j * 2 ∧ rv = poR (poApp p e) (.buf id 0 (poApp p e).mem.length ((poApp p e).mem.length + j)) ∧ alook σ1.objs id = some (mbCs (poApp p e).mem ++ rest)
set_option maxHeartbeats 8000000 in
theorem apply_raw (p : Po) (e : En) (hm : p.mem.length ≤ 1000) (he : e.Mid) (hw : e.wraps.length ≤ 1000) (hmay : mayN p e = 0) : ACalls Try.prog 30 [poA p, enA e] ⟨[], [], 0⟩ (ApK p e) := by
  refine ACalls_body Try.func30 rfl rfl ?_
  simp only [Try.ntmps30, List.length_cons, List.length_nil, Nat.reduceAdd, Nat.reduceSub, List.replicate_succ, List.replicate_zero, List.cons_append, List.nil_append]
  have hM := may_val p e hm he hw
  rw [hmay] at hM
  have hpo := (mayN_ok hmay).1
  have heo := (mayN_ok hmay).2
  have hpos := rights_pos hpo.2.2.2
  have hk1 := heo.1
  have hk5 := heo.2.1
  have hec : AV.shutL (enC e) = true := by have := enA_shut e; unfold enA AV.shut at this; exact this
  have hI := indexFunc_val p.mem e hm
  have hil := idxF_le p.mem e.who
  generalize hx : idxF p.mem e.who = i at *
  refine RunB ?_ trivial trivial trivial trivial trivial trivial trivial trivial trivial trivial trivial trivial
  with_reducible apply R_call_k
  case hf => rfl
  case ha => rfl
  case hc => exact (fun vs w => by kernel_rfl)
  case h => exact clone_buf p.mem hpos hm _
  rintro _ _ ⟨j, hrv, hsg⟩
  dsimp only at hrv hsg
  subst hrv hsg
  refine RunB ?_ trivial trivial trivial trivial trivial trivial trivial trivial trivial trivial trivial trivial
  have hsh := shutL_append _ _ (mbCs_shut p.mem) (anys_shut (j * 2))
  have htk : List.take (p.mem.length * 2) (mbCs p.mem ++ anys (j * 2)) = mbCs p.mem := List.take_left' (mbCs_len _)
  with_reducible apply R_call_view 2
  case hf => rfl
  case ha => rfl
  case hv => (simp [AV.vwL, AV.vw, alook, hsh, hec, htk]; rfl)
  case h => exact hI
  case hR => rfl
  case hc => exact (fun vs w => by kernel_rfl)
  case hs => exact aput_ok rfl
  refine RunB ?_ trivial trivial trivial trivial trivial trivial trivial trivial trivial trivial trivial trivial
  have hI2 : idxI p.mem e.who = if i < p.mem.length then (i : Int) else -1 := by unfold idxI; rw [hx]
  by_cases hlt : i < p.mem.length
  · rw [if_pos hlt] at hI2
    rw [hI2]
    have hel : p.mem[i]? = some p.mem[i] := List.getElem?_eq_getElem hlt
    generalize hy : p.mem[i] = x at *
    have hat : (mbCs p.mem ++ anys (j * 2))[i * 2 + 0]? = some (.int .i64 x.who) := mb_at hel (anys (j * 2))
    have hgd : p.mem.getD i ⟨0, 0⟩ = x := by rw [List.getD_eq_getElem?_getD, hel]; rfl
    by_cases hth : x.who = e.who
    · have hyes : There p.mem e.who := ⟨by rw [hx]; exact hlt, by rw [hx, hgd]; exact hth⟩
      refine RunB ?_ trivial trivial trivial trivial trivial trivial trivial trivial trivial trivial trivial trivial
      by_cases k5 : e.kind = 5
      · have hPA : poApp p e = ⟨p.founder, e.epoch, p.mem⟩ := by unfold poApp; rw [if_pos k5]
        refine RunB ?_ trivial trivial trivial trivial trivial trivial trivial trivial trivial trivial trivial trivial
        unfold ApK
        rw [hPA]
        exact ⟨3, j, anys (j * 2), by decide, anys_len _, rfl, rfl⟩
      by_cases k4 : e.kind = 4
      · refine RunB ?_ trivial trivial (⟨Try.func61, rfl, rfl⟩ : Inl Try.prog 61 _ _ _) trivial trivial trivial trivial trivial trivial trivial trivial trivial
        rw [show (i : Int) + 1 = ((i + 1 : Nat) : Int) from rfl]
        have hfl := mb_full p.mem j
        obtain ⟨R, hRl, hcut⟩ := mb_del p.mem i j hlt
        have hon := mbCs_ones (p.mem.drop (i + 1))
        obtain ⟨ms', hms⟩ : ∃ ms', ms' = p.mem.take i ++ p.mem.drop (i + 1) := ⟨_, rfl⟩
        have hPA : poApp p e = ⟨p.founder, p.epoch, ms'⟩ := by unfold poApp delM; rw [if_neg k5, if_pos k4, if_pos hyes, hms, hx]
        have hL : ms'.length + 1 = p.mem.length := by rw [hms, List.length_append, List.length_take, List.length_drop]; omega
        rw [← hms] at hcut
        by_cases hedge : i + 1 < p.mem.length + j
        · have hsub : ((mbCs p.mem ++ anys (j * 2)).drop (0 + (i + 1) * 2)).take ((p.mem.length - (i + 1)) * 2) = mbCs (p.mem.drop (i + 1)) := by rw [Nat.zero_add]; exact mb_sub _ _ _ _ (by omega)
          refine RunB ?_ trivial trivial trivial trivial trivial trivial trivial trivial trivial trivial trivial trivial
          with_reducible apply B_clear
          case hx => rfl
          case hz1 => rfl
          case ho => rfl
          case h0 => omega
          case hl => rw [List.length_append, mbCs_len, hRl]; omega
          case hc => exact mb_clear ms' R _ _ (by omega)
          case hob => rfl
          case hs => rfl
          refine RunB ?_ trivial trivial trivial trivial trivial trivial trivial trivial trivial trivial trivial trivial
          unfold ApK
          rw [hPA]
          exact ⟨3, j + 1, _, by decide, by rw [acut_len (by rw [anys_len, hRl]; omega)]; exact hRl, by rw [show i + (p.mem.length - (i + 1)) = ms'.length by omega, show p.mem.length + j = ms'.length + (j + 1) by omega]; rfl, rfl⟩
        · refine RunB ?_ trivial trivial trivial trivial trivial trivial trivial trivial trivial trivial trivial trivial
          with_reducible apply B_append_room
          case hx => rfl
          case hy => rfl
          case ho => rfl
          case hS => exact SrcS.of (SrcOk_sl inferInstance rfl rfl)
          case hg => omega
          case hl => rw [hfl]; omega
          case hc =>
            have h0 : mbCs (p.mem.drop (i + 1)) = [] := by rw [List.drop_of_length_le (by omega)]; rfl
            rewrite [h0] at hcut
            exact hcut
          case hob => rfl
          case hs => exact aput_ok rfl
          refine RunB ?_ trivial trivial trivial trivial trivial trivial trivial trivial trivial trivial trivial trivial
          with_reducible apply B_clear
          case hx => rfl
          case hz1 => rfl
          case ho => rfl
          case h0 => omega
          case hl => rw [List.length_append, mbCs_len, hRl]; omega
          case hc => exact mb_clear ms' R _ _ (by omega)
          case hob => rfl
          case hs => rfl
          refine RunB ?_ trivial trivial trivial trivial trivial trivial trivial trivial trivial trivial trivial trivial
          unfold ApK
          rw [hPA]
          exact ⟨3, j + 1, _, by decide, by rw [acut_len (by rw [anys_len, hRl]; omega)]; exact hRl, by rw [show i + 0 = ms'.length by omega, show p.mem.length + j = ms'.length + (j + 1) by omega]; rfl, rfl⟩
      by_cases k3 : e.kind = 3
      · obtain ⟨ms', hms⟩ : ∃ ms', ms' = p.mem.take i ++ ⟨e.who, e.rights⟩ :: p.mem.drop (i + 1) := ⟨_, rfl⟩
        have hPA : poApp p e = ⟨p.founder, p.epoch, ms'⟩ := by unfold poApp setM; rw [if_neg k5, if_neg k4, if_pos k3, if_pos hyes, hms, hx]
        have hL : ms'.length = p.mem.length := by rw [hms, List.length_append, List.length_take, List.length_cons, List.length_drop]; omega
        have hset := mb_set hel (anys (j * 2)) e.rights
        rw [hth, ← hms] at hset
        have hfl := mb_full p.mem j
        have hle : i * 2 + 1 < (mbCs p.mem ++ anys (j * 2)).length := by rw [hfl]; omega
        refine RunB ?_ trivial trivial trivial trivial trivial trivial trivial trivial trivial trivial trivial trivial
        unfold ApK
        rw [hPA]
        exact ⟨3, j, anys (j * 2), by decide, anys_len _, by dsimp only; rw [hL]; rfl, congrArg some hset⟩
      · have hPA : poApp p e = ⟨p.founder, p.epoch, p.mem⟩ := by unfold poApp; rw [if_neg k5, if_neg k4, if_neg k3]
        refine RunB ?_ trivial trivial trivial trivial trivial trivial trivial trivial trivial trivial trivial trivial
        unfold ApK
        rw [hPA]
        exact ⟨3, j, anys (j * 2), by decide, anys_len _, rfl, rfl⟩
    · have hno : ¬ There p.mem e.who := fun h => hth (by rw [← hgd, ← hx]; exact h.2)
      refine RunB ?_ trivial trivial trivial trivial trivial trivial trivial trivial trivial trivial trivial trivial
      by_cases k5 : e.kind = 5
      · have hPA : poApp p e = ⟨p.founder, e.epoch, p.mem⟩ := by unfold poApp; rw [if_pos k5]
        refine RunB ?_ trivial trivial trivial trivial trivial trivial trivial trivial trivial trivial trivial trivial
        unfold ApK
        rw [hPA]
        exact ⟨3, j, anys (j * 2), by decide, anys_len _, rfl, rfl⟩
      by_cases k4 : e.kind = 4
      · have hPA : poApp p e = ⟨p.founder, p.epoch, p.mem⟩ := by unfold poApp delM; rw [if_neg k5, if_pos k4, if_neg hno]
        refine RunB ?_ trivial trivial trivial trivial trivial trivial trivial trivial trivial trivial trivial trivial
        unfold ApK
        rw [hPA]
        exact ⟨3, j, anys (j * 2), by decide, anys_len _, rfl, rfl⟩
      by_cases k3 : e.kind = 3
      · obtain ⟨ms1, hms1⟩ : ∃ ms1, ms1 = p.mem.take i ++ ⟨e.who, 0⟩ :: p.mem.drop i := ⟨_, rfl⟩
        obtain ⟨ms', hms⟩ : ∃ ms', ms' = p.mem.take i ++ ⟨e.who, e.rights⟩ :: p.mem.drop i := ⟨_, rfl⟩
        have hPA : poApp p e = ⟨p.founder, p.epoch, ms'⟩ := by unfold poApp setM; rw [if_neg k5, if_neg k4, if_pos k3, if_neg hno, hms, hx]
        have hL : ms'.length = p.mem.length + 1 := by rw [hms, List.length_append, List.length_take, List.length_cons, List.length_drop]; omega
        have hL1 : ms1.length = p.mem.length + 1 := by rw [hms1, List.length_append, List.length_take, List.length_cons, List.length_drop]; omega
        have hset : ∀ rest, (mbCs ms1 ++ rest).set (i * 2 + 1) (.int .i64 e.rights) = mbCs ms' ++ rest := fun rest => by rw [hms1, hms]; exact mb_ins _ _ (by omega) _ _ _
        have hle : ∀ rest : List AV, i * 2 + 1 < (mbCs ms1 ++ rest).length := fun rest => by rw [List.length_append, mbCs_len, hL1]; omega
        have hfl := mb_full p.mem j
        by_cases hj : j = 0
        · subst hj
          refine RunB ?_ trivial trivial (⟨Try.func62, rfl, rfl⟩ : Inl Try.prog 62 _ _ _) trivial trivial trivial trivial trivial trivial trivial trivial trivial
          with_reducible apply B_append_zeros (m := p.mem.length + 1 - i)
          case hx => rfl
          case hy => rfl
          case hi0 => omega
          case ho => rfl
          case hm => omega
          case hg => omega
          case hc => exact mb_first p.mem i _ (by omega)
          case hl => rw [hfl]; omega
          case hb => constructor <;> omega
          intro j2
          rw [show i + (p.mem.length + 1 - i) = p.mem.length + 1 by omega, List.append_assoc]
          refine RunB ?_ trivial trivial trivial trivial trivial trivial trivial trivial trivial trivial trivial trivial
          with_reducible apply B_copy
          case hx => rfl
          case hy => rfl
          case ho => rfl
          case hS => exact SrcS.of (SrcOk_sl inferInstance rfl rfl)
          case hg => omega
          case hl => rw [Nat.zero_add, List.length_append, List.length_append, anys_len, anys_len, mbCs_len, List.length_take]; simp only [List.length_cons, List.length_nil]; omega
          case hc => rfl
          case hob => rfl
          case hs => exact aput_ok rfl
          rw [Nat.zero_add]
          refine RunB ?_ trivial trivial trivial trivial trivial trivial trivial trivial trivial trivial trivial trivial
          with_reducible apply B_copy_buf (q := p.mem.length - i) (cells2 := mbCs (p.mem.drop i))
          case hx => rfl
          case hy => rfl
          case ho => rfl
          case ho2 => rfl
          case hq => show min _ _ = _; omega
          case hc2 => rewrite [Nat.zero_add]; exact mb_sub p.mem i _ _ (by omega)
          case hl2 => rw [hfl]; omega
          case h1 => exact mbCs_ones _
          case hl => rw [acut_len (by rw [List.length_append, List.length_append, anys_len, anys_len, mbCs_len, List.length_take]; simp only [List.length_cons, List.length_nil]; omega), List.length_append, List.length_append, anys_len, anys_len, mbCs_len, mbCs_len, List.length_take, List.length_drop]; omega
          case hc => rewrite [Nat.zero_add, mb_new p.mem i (by omega), ← hms1]; rfl
          case hob => rfl
          case hs => exact aput_ok rfl
          have hle2 := hle ((anys ((p.mem.length + 1 - i) * 2) ++ anys (j2 * 2)).drop (2 + (p.mem.length - i) * 2))
          refine RunB ?_ trivial trivial trivial trivial trivial trivial trivial trivial trivial trivial trivial trivial
          unfold ApK
          rw [hPA]
          exact ⟨4, j2, _, by decide, by rw [List.length_drop, List.length_append, anys_len, anys_len]; omega, by dsimp only; rw [hL]; rfl, congrArg some (hset _)⟩
        · refine RunB ?_ trivial trivial (⟨Try.func62, rfl, rfl⟩ : Inl Try.prog 62 _ _ _) trivial trivial trivial trivial trivial trivial trivial trivial trivial
          with_reducible apply S_overlaps (t := 48) (t2 := 48) (rs := #[4])
          case hf => rfl
          case hx => rfl
          case hy => rfl
          case T => infer_instance
          case h0 => decide
          case hl => rfl
          case ho => rfl
          case hp => rw [hfl]; omega
          case hc => exact fun vs w => run_callFunc_extern (e := Extern.SlicesOverlaps.overlaps #[48, 48] #[4]) Try.func70 (by kernel_rfl) (by kernel_rfl) (by kernel_rfl) (by kernel_rfl) vs w
          case hs => exact aput_ok rfl
          refine RunB ?_ trivial trivial trivial trivial trivial trivial trivial trivial trivial trivial trivial trivial
          with_reducible apply B_copy_buf (q := p.mem.length - i) (cells2 := mbCs (p.mem.drop i))
          case hx => rfl
          case hy => rfl
          case ho => rfl
          case ho2 => rfl
          case hq => show min _ _ = _; omega
          case hc2 => rewrite [Nat.zero_add]; exact mb_sub p.mem i _ _ (by omega)
          case hl2 => rw [hfl]; omega
          case h1 => exact mbCs_ones _
          case hl => rw [hfl, mbCs_len, List.length_drop]; omega
          case hc => rfl
          case hob => rfl
          case hs => exact aput_ok rfl
          refine RunB ?_ trivial trivial trivial trivial trivial trivial trivial trivial trivial trivial trivial trivial
          with_reducible apply B_copy
          case hx => rfl
          case hy => rfl
          case ho => rfl
          case hS => exact SrcS.of (SrcOk_sl inferInstance rfl rfl)
          case hg => omega
          case hl => rw [acut_len (by rw [hfl, mbCs_len, List.length_drop]; omega), hfl]; simp only [List.length_cons, List.length_nil]; omega
          case hc => rewrite [Nat.zero_add, Nat.zero_add, mb_spot p.mem i hlt, ← hms1]; rfl
          case hob => rfl
          case hs => exact aput_ok rfl
          have hle2 := hle ((anys (j * 2)).drop 2)
          refine RunB ?_ trivial trivial trivial trivial trivial trivial trivial trivial trivial trivial trivial trivial
          unfold ApK
          rw [hPA]
          exact ⟨3, j - 1, _, by decide, by rw [List.length_drop, anys_len]; omega, by dsimp only; rw [hL, show p.mem.length + 1 + (j - 1) = p.mem.length + j by omega]; rfl, congrArg some (hset _)⟩
      · have hPA : poApp p e = ⟨p.founder, p.epoch, p.mem⟩ := by unfold poApp; rw [if_neg k5, if_neg k4, if_neg k3]
        refine RunB ?_ trivial trivial trivial trivial trivial trivial trivial trivial trivial trivial trivial trivial
        unfold ApK
        rw [hPA]
        exact ⟨3, j, anys (j * 2), by decide, anys_len _, rfl, rfl⟩
  · obtain rfl : i = p.mem.length := by omega
    have hno : ¬ There p.mem e.who := fun h => by have := h.1; omega
    rw [if_neg (by omega)] at hI2
    rw [hI2]
    refine RunB ?_ trivial trivial trivial trivial trivial trivial trivial trivial trivial trivial trivial trivial
    by_cases k5 : e.kind = 5
    · have hPA : poApp p e = ⟨p.founder, e.epoch, p.mem⟩ := by unfold poApp; rw [if_pos k5]
      refine RunB ?_ trivial trivial trivial trivial trivial trivial trivial trivial trivial trivial trivial trivial
      unfold ApK
      rw [hPA]
      exact ⟨3, j, anys (j * 2), by decide, anys_len _, rfl, rfl⟩
    by_cases k4 : e.kind = 4
    · have hPA : poApp p e = ⟨p.founder, p.epoch, p.mem⟩ := by unfold poApp delM; rw [if_neg k5, if_pos k4, if_neg hno]
      refine RunB ?_ trivial trivial trivial trivial trivial trivial trivial trivial trivial trivial trivial trivial
      unfold ApK
      rw [hPA]
      exact ⟨3, j, anys (j * 2), by decide, anys_len _, rfl, rfl⟩
    by_cases k3 : e.kind = 3
    · obtain ⟨ms1, hms1⟩ : ∃ ms1, ms1 = p.mem.take p.mem.length ++ ⟨e.who, 0⟩ :: p.mem.drop p.mem.length := ⟨_, rfl⟩
      obtain ⟨ms', hms⟩ : ∃ ms', ms' = p.mem.take p.mem.length ++ ⟨e.who, e.rights⟩ :: p.mem.drop p.mem.length := ⟨_, rfl⟩
      have hPA : poApp p e = ⟨p.founder, p.epoch, ms'⟩ := by unfold poApp setM; rw [if_neg k5, if_neg k4, if_pos k3, if_neg hno, hms, hx]
      have hL : ms'.length = p.mem.length + 1 := by rw [hms, List.length_append, List.length_take, List.length_cons, List.length_drop]; omega
      have hL1 : ms1.length = p.mem.length + 1 := by rw [hms1, List.length_append, List.length_take, List.length_cons, List.length_drop]; omega
      have hset : ∀ rest, (mbCs ms1 ++ rest).set (p.mem.length * 2 + 1) (.int .i64 e.rights) = mbCs ms' ++ rest := fun rest => by rw [hms1, hms]; exact mb_ins _ _ (by omega) _ _ _
      have hle : ∀ rest : List AV, p.mem.length * 2 + 1 < (mbCs ms1 ++ rest).length := fun rest => by rw [List.length_append, mbCs_len, hL1]; omega
      have hfl := mb_full p.mem j
      by_cases hj : j = 0
      · subst hj
        refine RunB ?_ trivial trivial (⟨Try.func62, rfl, rfl⟩ : Inl Try.prog 62 _ _ _) trivial trivial trivial trivial trivial trivial trivial trivial trivial
        with_reducible apply B_append_grow
        case hx => rfl
        case hy => rfl
        case ho => rfl
        case hS => exact SrcS.of (SrcOk_sl inferInstance rfl rfl)
        case hg => omega
        case hc => exact mb_first p.mem _ _ (Nat.le_refl _)
        case hl => rw [hfl]; omega
        case hb => constructor <;> omega
        intro j2
        rw [show mbCs (p.mem.take p.mem.length) ++ [.int .i64 e.who, .int .i64 0] ++ List.replicate (j2 * 2) AV.any = mbCs ms1 ++ anys (j2 * 2) by rw [hms1, mb_insC, List.drop_length]; simp [mbCs, anys]]
        have hle2 := hle (anys (j2 * 2))
        refine RunB ?_ trivial trivial trivial trivial trivial trivial trivial trivial trivial trivial trivial trivial
        unfold ApK
        rw [hPA]
        exact ⟨4, j2, _, by decide, anys_len _, by dsimp only; rw [hL]; rfl, congrArg some (hset _)⟩
      · obtain ⟨R, hRl, hcut⟩ := mb_endR p.mem e.who j (by omega)
        rw [← hms1] at hcut
        have hle2 := hle R
        refine RunB ?_ trivial trivial (⟨Try.func62, rfl, rfl⟩ : Inl Try.prog 62 _ _ _) trivial trivial trivial trivial trivial trivial trivial trivial trivial
        with_reducible apply B_append_room
        case hx => rfl
        case hy => rfl
        case ho => rfl
        case hS => exact SrcS.of (SrcOk_sl inferInstance rfl rfl)
        case hg => omega
        case hl => rw [hfl]; omega
        case hc => exact hcut
        case hob => rfl
        case hs => exact aput_ok rfl
        refine RunB ?_ trivial trivial trivial trivial trivial trivial trivial trivial trivial trivial trivial trivial
        unfold ApK
        rw [hPA]
        exact ⟨3, j - 1, R, by decide, hRl, by dsimp only; rw [hL, show p.mem.length + 1 + (j - 1) = p.mem.length + j by omega]; rfl, congrArg some (hset _)⟩
    · have hPA : poApp p e = ⟨p.founder, p.epoch, p.mem⟩ := by unfold poApp; rw [if_neg k5, if_neg k4, if_neg k3]
      refine RunB ?_ trivial trivial trivial trivial trivial trivial trivial trivial trivial trivial trivial trivial
      unfold ApK
      rw [hPA]
      exact ⟨3, j, anys (j * 2), by decide, anys_len _, rfl, rfl⟩
end Go.Proofs.Ytaffpkogcpkmjaa
