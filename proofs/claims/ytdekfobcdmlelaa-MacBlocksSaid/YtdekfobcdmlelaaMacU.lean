/- Mac by the abstract machine: mac.Expand, the reference's Code and Expand. -/
import Derived.Test.YtdekfobcdmlelaaMacT
import Derived.Test.YtdekfobcdmlelaaMacP
namespace Go.Proofs.Ytdekfobcdmlelaa
open Go.RowKit
set_option linter.unusedVariables false
set_option linter.unusedSimpArgs false
set_option maxRecDepth 10000
variable {M : MM} {w : World}

theorem code_val {ak : AV} {key : List UInt8} {own : AOwn} {cs : List AV} {ls : List (List UInt8)} {n : Nat} (hk : IsB ak key) (hps : IsBs cs ls) (hn2 : cs.length = n) (hn : key.length ≤ 1000000) (hm : ls.flatten.length ≤ 1000000000) : AVal Try.prog 16 [ak, .sl own cs n] (.sl .none ((macB key ls.flatten).map bvA) 32) := by
  refine AVal.fg ?_
  obtain ⟨a1, e1, hk1, s1, o1⟩ := hk.fgn
  obtain ⟨k1, k2⟩ := hps.fg
  have hlen : (AV.fgL cs).length = n := by rw [AV.fgL_length]; exact hn2
  have h2 : ∃ own', AV.fg (.sl own cs n) = .sl own' (AV.fgL cs) n ∧ (AV.sl own' (AV.fgL cs) n).shut = true := by
    cases own
    · exact ⟨.none, by unfold AV.fg; rfl, by unfold AV.shut; exact k2⟩
    · exact ⟨.full, by unfold AV.fg; rfl, by unfold AV.shut; exact k2⟩
    · exact ⟨.none, by unfold AV.fg; rfl, by unfold AV.shut; exact k2⟩
  obtain ⟨own', h3, h4⟩ := h2
  simp only [AV.fgL, e1, h3]
  exact (code_tok hk1 k1 hlen hn hm).val (by simp only [AV.shutL, s1, h4, Bool.and_self])
theorem rcode_tok {ak am : AV} {key msg : List UInt8} (hk : IsB ak key) (h : IsB am msg) (hn : key.length ≤ 1000000) (hm : msg.length ≤ 900000) : ATok Try.prog 17 [ak, am] 32 1 ((macB key msg).map bvA) 32 := by
  refine ATok.fg ?_
  obtain ⟨a1, e1, hk1, s1, o1⟩ := hk.fgn
  obtain ⟨a2, e2, hk2, s2, o2⟩ := h.fgn
  simp only [AV.fgL, e1, e2]
  clear hk h e1 e2
  refine ATok.mk (by simp [AV.shutL, s1, s2]) (shutL_bvA _) ?_
  refine ACalls_body Try.func17 rfl rfl ?_
  simp only [Try.ntmps17, List.length_cons, List.length_nil, Nat.reduceAdd, Nat.reduceSub, List.replicate_succ, List.replicate_zero, List.cons_append, List.nil_append]
  repeat' (first
    | with_reducible refine AWP_seq ?_
    | with_reducible refine AWP_region ?_
    | with_reducible refine AOPS_nil ?_
    | with_reducible refine AThen_normal ?_
    | with_reducible refine AThen_ret ?_
    | with_reducible refine AThen_exit ?_
    | with_reducible refine ARound_ret ?_
    | with_reducible refine ARound_exit ?_
    | with_reducible refine AWP_skip ?_
    | with_reducible refine AWP_ret ?_
    | with_reducible refine AWP_exit ?_
    | ((with_reducible apply S_move); (case hx => rfl); (case hs => (simp only [aput, List.set_cons_succ, List.set_cons_zero]; rfl)))
    | ((with_reducible apply S_assign); (case hx => rfl); (case hs => (simp only [aput, List.set_cons_succ, List.set_cons_zero]; rfl)))
    | ((with_reducible apply T_append_full); (case hx => rfl); (case hy => rfl); (case hS => (first | exact SrcOk_bytes inferInstance (by first | rfl | assumption | (simp; done) | omega) | exact SrcOk_sl inferInstance (by simp) (by first | rfl | (simp only [List.all_cons, List.all_nil, bvA_one, Bool.and_self]; done) | simp [AV.one, bvA_ones]) | exact SrcOk_nils inferInstance | exact SrcOk_str inferInstance | exact SrcOk_isB inferInstance (by assumption))); (case hl => (first | rfl | (simp; done))); (case hb => (first | (constructor <;> omega) | omega | (simp; done) | (simp; omega))); (case hs => (simp only [aput, List.set_cons_succ, List.set_cons_zero]; rfl)))
    | ((with_reducible apply T_append_nils); (case hx => rfl); (case hy => rfl); (case hS => (first | exact SrcOk_bytes inferInstance (by first | rfl | assumption | (simp; done) | omega) | exact SrcOk_sl inferInstance (by simp) (by first | rfl | (simp only [List.all_cons, List.all_nil, bvA_one, Bool.and_self]; done) | simp [AV.one, bvA_ones]) | exact SrcOk_nils inferInstance | exact SrcOk_str inferInstance | exact SrcOk_isB inferInstance (by assumption))); (case hb => (first | (constructor <;> omega) | omega | (simp; done) | (simp; omega))); (case hs => (simp only [aput, List.set_cons_succ, List.set_cons_zero]; rfl)))
    | ((with_reducible apply U_append_tok); (case hx => rfl); (case hy => rfl); (case htk => (first | rfl | (simp [alook]; done))); (case hS => (first | exact SrcOk_bytes inferInstance (by first | rfl | assumption | (simp; done) | omega) | exact SrcOk_sl inferInstance (by simp) (by first | rfl | (simp only [List.all_cons, List.all_nil, bvA_one, Bool.and_self]; done) | simp [AV.one, bvA_ones]) | exact SrcOk_nils inferInstance | exact SrcOk_str inferInstance | exact SrcOk_isB inferInstance (by assumption))); (case hb => (first | (constructor <;> omega) | omega | (simp; done) | (simp; omega))); (case ht => (first | rfl | (simp only [asetF, if_true]; rfl))); (case hs => (simp only [aput, List.set_cons_succ, List.set_cons_zero]; rfl)))
    | ((with_reducible apply S_call_tok (g := 38)); (case hf => rfl); (case ha => rfl); (case h => exact (rpad_tok (x := 54) hk1 hn)); (case hc => exact (fun vs w => by kernel_rfl)); (case hs => (simp only [aput, List.set_cons_succ, List.set_cons_zero]; rfl)))
    | ((with_reducible apply S_call_tok (g := 38)); (case hf => rfl); (case ha => rfl); (case h => exact (rpad_tok (x := 92) hk1 hn)); (case hc => exact (fun vs w => by kernel_rfl)); (case hs => (simp only [aput, List.set_cons_succ, List.set_cons_zero]; rfl)))
    | ((with_reducible apply S_call_tok (g := 18)); (case hf => rfl); (case ha => rfl); (case h => exact (rsum_tok (msg := padK key 54 ++ msg) (IsB.app _ _ _ (by simp only [padK_length])) (by simp only [List.length_append, padK_length]; omega))); (case hc => exact (fun vs w => by kernel_rfl)); (case hs => (simp only [aput, List.set_cons_succ, List.set_cons_zero]; rfl)))
    | ((with_reducible apply S_call_tok (g := 18)); (case hf => rfl); (case ha => rfl); (case h => exact (rsum_tok (msg := padK key 92 ++ sumB (padK key 54 ++ msg)) (IsB.app _ _ _ (by simp only [padK_length, sumB_length])) (by simp only [List.length_append, padK_length, sumB_length]; omega))); (case hc => exact (fun vs w => by kernel_rfl)); (case hs => (simp only [aput, List.set_cons_succ, List.set_cons_zero]; rfl)))
    | fail)
  refine ARet_ret rfl (.tmpO rfl .nil) ?_
  exact ⟨_, rfl, by simp [alook]⟩
theorem rcode_val {ak am : AV} {key msg : List UInt8} (hk : IsB ak key) (h : IsB am msg) (hn : key.length ≤ 1000000) (hm : msg.length ≤ 900000) : AVal Try.prog 17 [ak, am] (.sl .none ((macB key msg).map bvA) 32) := by
  refine AVal.fg ?_
  obtain ⟨a1, e1, hk1, s1, o1⟩ := hk.fgn
  obtain ⟨a2, e2, hk2, s2, o2⟩ := h.fgn
  simp only [AV.fgL, e1, e2]
  exact (rcode_tok hk1 hk2 hn hm).val (by simp [AV.shutL, s1, s2])
theorem extract_val {ak am : AV} {key msg : List UInt8} (hk : IsB ak key) (h : IsB am msg) (hn : key.length ≤ 1000000) (hm : msg.length ≤ 1000000000) : AVal Try.prog 19 [ak, am] (.sl .none ((macB key msg).map bvA) 32) := by
  refine AVal.fg ?_
  obtain ⟨a1, e1, hk1, s1, o1⟩ := hk.fgn
  obtain ⟨a2, e2, hk2, s2, o2⟩ := h.fgn
  simp only [AV.fgL, e1, e2]
  exact (extract_tok hk1 hk2 hn hm).val (by simp [AV.shutL, s1, s2])
/-- What is spread. -/
def exN (key info : List UInt8) (N : Nat) : List UInt8 := (exAll key info 255).take N
theorem exN_of {key info : List UInt8} {N i : Nat} (h : N ≤ 32 * i) (hi : i ≤ 255) : (exAll key info i).take N = exN key info N := (exAll_take key info i 255 N h hi).symm
theorem exB_le (key info : List UInt8) (i : Nat) : (exB key info i).length ≤ 32 := by
  cases i with
  | zero => simp [exB]
  | succ i => rw [exB_length]; exact Nat.le_refl _
theorem expand_err_val {ak ai : AV} {key info : List UInt8} {n : Int} (hk : IsB ak key) (h : IsB ai info) (hn : n < 0 ∨ 8160 < n) : AVal Try.prog 21 [ak, ai, .int .i64 n] (.tup [.nils, .int .i64 11]) := by
  refine AVal.fg ?_
  obtain ⟨a1, e1, hk1, s1, o1⟩ := hk.fgn
  obtain ⟨a2, e2, hk2, s2, o2⟩ := h.fgn
  simp only [AV.fgL, e1, e2, AV.fg]
  refine AVal.mk (by simp [AV.shutL, AV.shut, s1, s2]) (by simp [AV.shutL, AV.shut]) ?_
  refine ACalls_body Try.func21 rfl rfl ?_
  simp only [Try.ntmps21, List.length_cons, List.length_nil, Nat.reduceAdd, Nat.reduceSub, List.replicate_succ, List.replicate_zero, List.cons_append, List.nil_append]
  by_cases h1 : n < 0
  · have d1 : decide (n < 0) = true := by simpa using h1
    repeat (first
      | with_reducible refine AWP_seq ?_
      | with_reducible refine AWP_region ?_
      | with_reducible refine AOPS_nil ?_
      | with_reducible refine AThen_normal ?_
      | with_reducible refine AThen_ret ?_
      | with_reducible refine AThen_exit ?_
      | with_reducible refine ABlock_normal ?_
      | with_reducible refine ABlock_ret ?_
      | with_reducible refine ABlock_exit ?_
      | ((with_reducible apply ABlock_other); (case hij => rfl))
      | with_reducible refine ARound_ret ?_
      | with_reducible refine ARound_exit ?_
      | with_reducible refine ANext_normal ?_
      | with_reducible refine ANext_ret ?_
      | with_reducible refine ANext_exit ?_
      | with_reducible refine ARounds_step ?_
      | with_reducible refine ALoopQ_ret ?_
      | with_reducible refine ALoopQ_exit ?_
      | with_reducible refine AWP_block ?_
      | with_reducible refine AWP_skip ?_
      | with_reducible refine AWP_ret ?_
      | with_reducible refine AWP_exit ?_
      | ((with_reducible apply AWP_cond_t); (case hc => rfl); (case hb => (first | with_reducible assumption | with_reducible rfl | (simp only [d1]; done) | (simp; done) | (simp; omega))))
      | ((with_reducible apply AWP_cond_f); (case hc => rfl); (case hb => (first | with_reducible assumption | with_reducible rfl | (simp only [d1]; done) | (simp; done) | (simp; omega))))
      | ((with_reducible apply AOPS_guard_yes); (case hy => rfl); (case hb => (first | with_reducible assumption | with_reducible rfl | (simp only [d1]; done) | (simp; done) | (simp; omega))))
      | ((with_reducible apply AOPS_guard_no); (case hy => rfl); (case hb => (first | with_reducible assumption | with_reducible rfl | (simp only [d1]; done) | (simp; done) | (simp; omega))); (case hs => (simp only [aput, List.set_cons_succ, List.set_cons_zero]; rfl)))
      | ((with_reducible apply AOPS_guard_und); (case hy => rfl); (case hs => (simp only [aput, List.set_cons_succ, List.set_cons_zero]; rfl)))
      | ((with_reducible apply S_move); (case hx => rfl); (case hs => (simp only [aput, List.set_cons_succ, List.set_cons_zero]; rfl)))
      | ((with_reducible apply S_assign); (case hx => rfl); (case hs => (simp only [aput, List.set_cons_succ, List.set_cons_zero]; rfl)))
      | ((with_reducible apply S_pick_t); (case hc => rfl); (case hb => (first | with_reducible assumption | with_reducible rfl | (simp only [d1]; done) | (simp; done) | (simp; omega))); (case hx => rfl); (case hs => (simp only [aput, List.set_cons_succ, List.set_cons_zero]; rfl)))
      | ((with_reducible apply S_pick_f); (case hc => rfl); (case hb => (first | with_reducible assumption | with_reducible rfl | (simp only [d1]; done) | (simp; done) | (simp; omega))); (case hx => rfl); (case hs => (simp only [aput, List.set_cons_succ, List.set_cons_zero]; rfl)))
      | ((with_reducible apply AOPS_len_sl); (case hx => rfl); (case hs => (simp only [aput, List.set_cons_succ, List.set_cons_zero]; rfl)))
      | ((with_reducible apply AOPS_len_nils); (case hx => rfl); (case hs => (simp only [aput, List.set_cons_succ, List.set_cons_zero]; rfl)))
      | ((with_reducible apply AOPS_len_row); (case hx => rfl); (case hs => (simp only [aput, List.set_cons_succ, List.set_cons_zero]; rfl)))
      | ((with_reducible apply AOPS_len_str); (case hx => rfl); (case hs => (simp only [aput, List.set_cons_succ, List.set_cons_zero]; rfl)))
      | ((with_reducible apply S_len_isB); (case hx => rfl); (case hb => assumption); (case hs => (simp only [aput, List.set_cons_succ, List.set_cons_zero]; rfl)))
      | ((with_reducible apply S_inc8); (case hx => rfl); (case hy => rfl); (case hs => (simp only [aput, List.set_cons_succ, List.set_cons_zero]; rfl)))
      | ((with_reducible apply S_add); (case hx => rfl); (case hy => rfl); (case hb => (first | (constructor <;> omega) | omega | (simp; done) | (simp; omega))); (case hs => (simp only [aput, List.set_cons_succ, List.set_cons_zero]; rfl)))
      | ((with_reducible apply S_bin); (case hx => rfl); (case hy => rfl); (case ho => rfl); (case hs => (simp only [aput, List.set_cons_succ, List.set_cons_zero]; rfl)))
      | ((with_reducible apply AOPS_str); (case hx => rfl); (case hy => rfl); (case ho => rfl); (case hs => (simp only [aput, List.set_cons_succ, List.set_cons_zero]; rfl)))
      | ((with_reducible apply S_lit); (case hp => rfl); (case ho => (first | rfl | (simp only [List.all_cons, List.all_nil, Bool.and_true, Bool.and_self, bvA_one, sl_one, nils_one, str_one, d1]; done) | (simp [AV.one, d1]; done))); (case hl => rfl); (case hzl => rfl); (case hb => decide); (case hs => (simp only [aput, List.set_cons_succ, List.set_cons_zero]; rfl)))
      | ((with_reducible apply T_append_full); (case hx => rfl); (case hy => rfl); (case hS => (first | exact SrcOk_bytes inferInstance (by first | rfl | assumption | (simp; done) | omega) | exact SrcOk_sl inferInstance (by simp) (by first | rfl | (simp only [List.all_cons, List.all_nil, bvA_one, Bool.and_self]; done) | simp [AV.one, bvA_ones]) | exact SrcOk_nils inferInstance | exact SrcOk_str inferInstance | exact SrcOk_isB inferInstance (by assumption))); (case hl => (first | rfl | (simp; done))); (case hb => (first | (constructor <;> omega) | omega | (simp; done) | (simp; omega))); (case hs => (simp only [aput, List.set_cons_succ, List.set_cons_zero]; rfl)))
      | ((with_reducible apply T_append_nils); (case hx => rfl); (case hy => rfl); (case hS => (first | exact SrcOk_bytes inferInstance (by first | rfl | assumption | (simp; done) | omega) | exact SrcOk_sl inferInstance (by simp) (by first | rfl | (simp only [List.all_cons, List.all_nil, bvA_one, Bool.and_self]; done) | simp [AV.one, bvA_ones]) | exact SrcOk_nils inferInstance | exact SrcOk_str inferInstance | exact SrcOk_isB inferInstance (by assumption))); (case hb => (first | (constructor <;> omega) | omega | (simp; done) | (simp; omega))); (case hs => (simp only [aput, List.set_cons_succ, List.set_cons_zero]; rfl)))
      | ((with_reducible apply U_append_tok); (case hx => rfl); (case hy => rfl); (case htk => (first | rfl | (simp [alook]; done))); (case hS => (first | exact SrcOk_bytes inferInstance (by first | rfl | assumption | (simp; done) | omega) | exact SrcOk_sl inferInstance (by simp) (by first | rfl | (simp only [List.all_cons, List.all_nil, bvA_one, Bool.and_self]; done) | simp [AV.one, bvA_ones]) | exact SrcOk_nils inferInstance | exact SrcOk_str inferInstance | exact SrcOk_isB inferInstance (by assumption))); (case hb => (first | (constructor <;> omega) | omega | (simp; done) | (simp; omega))); (case ht => (first | rfl | (simp only [asetF, if_true]; rfl))); (case hs => (simp only [aput, List.set_cons_succ, List.set_cons_zero]; rfl)))
      | ((with_reducible apply S_slice8_lh); (case hx => rfl); (case hy => rfl); (case hz => rfl); (case hl => rfl); (case hh => rfl); (case hlm => (first | (constructor <;> omega) | omega | (simp; done) | (simp; omega))); (case hs => (simp only [aput, List.set_cons_succ, List.set_cons_zero]; rfl)))
      | ((with_reducible apply S_slice8_h); (case hx => rfl); (case hz => rfl); (case hh => rfl); (case hlm => (first | (constructor <;> omega) | omega | (simp; done) | (simp; omega))); (case hs => (simp only [aput, List.set_cons_succ, List.set_cons_zero]; rfl)))
      | ((with_reducible apply S_slice8_l); (case hx => rfl); (case hy => rfl); (case hl => rfl); (case hlm => (first | (constructor <;> omega) | omega | (simp; done) | (simp; omega))); (case hs => (simp only [aput, List.set_cons_succ, List.set_cons_zero]; rfl)))
      | fail)
    refine ARet_ret rfl (.tmpO rfl (.tmpO rfl .nil)) ?_
    simp [aone, AV.fg, AV.fgL]
  · have d1 : decide (n < 0) = false := by simpa using h1
    have d2 : decide (n > 8160) = true := by simp; omega
    repeat (first
      | with_reducible refine AWP_seq ?_
      | with_reducible refine AWP_region ?_
      | with_reducible refine AOPS_nil ?_
      | with_reducible refine AThen_normal ?_
      | with_reducible refine AThen_ret ?_
      | with_reducible refine AThen_exit ?_
      | with_reducible refine ABlock_normal ?_
      | with_reducible refine ABlock_ret ?_
      | with_reducible refine ABlock_exit ?_
      | ((with_reducible apply ABlock_other); (case hij => rfl))
      | with_reducible refine ARound_ret ?_
      | with_reducible refine ARound_exit ?_
      | with_reducible refine ANext_normal ?_
      | with_reducible refine ANext_ret ?_
      | with_reducible refine ANext_exit ?_
      | with_reducible refine ARounds_step ?_
      | with_reducible refine ALoopQ_ret ?_
      | with_reducible refine ALoopQ_exit ?_
      | with_reducible refine AWP_block ?_
      | with_reducible refine AWP_skip ?_
      | with_reducible refine AWP_ret ?_
      | with_reducible refine AWP_exit ?_
      | ((with_reducible apply AWP_cond_t); (case hc => rfl); (case hb => (first | with_reducible assumption | with_reducible rfl | (simp only [d1, d2]; done) | (simp; done) | (simp; omega))))
      | ((with_reducible apply AWP_cond_f); (case hc => rfl); (case hb => (first | with_reducible assumption | with_reducible rfl | (simp only [d1, d2]; done) | (simp; done) | (simp; omega))))
      | ((with_reducible apply AOPS_guard_yes); (case hy => rfl); (case hb => (first | with_reducible assumption | with_reducible rfl | (simp only [d1, d2]; done) | (simp; done) | (simp; omega))))
      | ((with_reducible apply AOPS_guard_no); (case hy => rfl); (case hb => (first | with_reducible assumption | with_reducible rfl | (simp only [d1, d2]; done) | (simp; done) | (simp; omega))); (case hs => (simp only [aput, List.set_cons_succ, List.set_cons_zero]; rfl)))
      | ((with_reducible apply AOPS_guard_und); (case hy => rfl); (case hs => (simp only [aput, List.set_cons_succ, List.set_cons_zero]; rfl)))
      | ((with_reducible apply S_move); (case hx => rfl); (case hs => (simp only [aput, List.set_cons_succ, List.set_cons_zero]; rfl)))
      | ((with_reducible apply S_assign); (case hx => rfl); (case hs => (simp only [aput, List.set_cons_succ, List.set_cons_zero]; rfl)))
      | ((with_reducible apply S_pick_t); (case hc => rfl); (case hb => (first | with_reducible assumption | with_reducible rfl | (simp only [d1, d2]; done) | (simp; done) | (simp; omega))); (case hx => rfl); (case hs => (simp only [aput, List.set_cons_succ, List.set_cons_zero]; rfl)))
      | ((with_reducible apply S_pick_f); (case hc => rfl); (case hb => (first | with_reducible assumption | with_reducible rfl | (simp only [d1, d2]; done) | (simp; done) | (simp; omega))); (case hx => rfl); (case hs => (simp only [aput, List.set_cons_succ, List.set_cons_zero]; rfl)))
      | ((with_reducible apply AOPS_len_sl); (case hx => rfl); (case hs => (simp only [aput, List.set_cons_succ, List.set_cons_zero]; rfl)))
      | ((with_reducible apply AOPS_len_nils); (case hx => rfl); (case hs => (simp only [aput, List.set_cons_succ, List.set_cons_zero]; rfl)))
      | ((with_reducible apply AOPS_len_row); (case hx => rfl); (case hs => (simp only [aput, List.set_cons_succ, List.set_cons_zero]; rfl)))
      | ((with_reducible apply AOPS_len_str); (case hx => rfl); (case hs => (simp only [aput, List.set_cons_succ, List.set_cons_zero]; rfl)))
      | ((with_reducible apply S_len_isB); (case hx => rfl); (case hb => assumption); (case hs => (simp only [aput, List.set_cons_succ, List.set_cons_zero]; rfl)))
      | ((with_reducible apply S_inc8); (case hx => rfl); (case hy => rfl); (case hs => (simp only [aput, List.set_cons_succ, List.set_cons_zero]; rfl)))
      | ((with_reducible apply S_add); (case hx => rfl); (case hy => rfl); (case hb => (first | (constructor <;> omega) | omega | (simp; done) | (simp; omega))); (case hs => (simp only [aput, List.set_cons_succ, List.set_cons_zero]; rfl)))
      | ((with_reducible apply S_bin); (case hx => rfl); (case hy => rfl); (case ho => rfl); (case hs => (simp only [aput, List.set_cons_succ, List.set_cons_zero]; rfl)))
      | ((with_reducible apply AOPS_str); (case hx => rfl); (case hy => rfl); (case ho => rfl); (case hs => (simp only [aput, List.set_cons_succ, List.set_cons_zero]; rfl)))
      | ((with_reducible apply S_lit); (case hp => rfl); (case ho => (first | rfl | (simp only [List.all_cons, List.all_nil, Bool.and_true, Bool.and_self, bvA_one, sl_one, nils_one, str_one, d1, d2]; done) | (simp [AV.one, d1, d2]; done))); (case hl => rfl); (case hzl => rfl); (case hb => decide); (case hs => (simp only [aput, List.set_cons_succ, List.set_cons_zero]; rfl)))
      | ((with_reducible apply T_append_full); (case hx => rfl); (case hy => rfl); (case hS => (first | exact SrcOk_bytes inferInstance (by first | rfl | assumption | (simp; done) | omega) | exact SrcOk_sl inferInstance (by simp) (by first | rfl | (simp only [List.all_cons, List.all_nil, bvA_one, Bool.and_self]; done) | simp [AV.one, bvA_ones]) | exact SrcOk_nils inferInstance | exact SrcOk_str inferInstance | exact SrcOk_isB inferInstance (by assumption))); (case hl => (first | rfl | (simp; done))); (case hb => (first | (constructor <;> omega) | omega | (simp; done) | (simp; omega))); (case hs => (simp only [aput, List.set_cons_succ, List.set_cons_zero]; rfl)))
      | ((with_reducible apply T_append_nils); (case hx => rfl); (case hy => rfl); (case hS => (first | exact SrcOk_bytes inferInstance (by first | rfl | assumption | (simp; done) | omega) | exact SrcOk_sl inferInstance (by simp) (by first | rfl | (simp only [List.all_cons, List.all_nil, bvA_one, Bool.and_self]; done) | simp [AV.one, bvA_ones]) | exact SrcOk_nils inferInstance | exact SrcOk_str inferInstance | exact SrcOk_isB inferInstance (by assumption))); (case hb => (first | (constructor <;> omega) | omega | (simp; done) | (simp; omega))); (case hs => (simp only [aput, List.set_cons_succ, List.set_cons_zero]; rfl)))
      | ((with_reducible apply U_append_tok); (case hx => rfl); (case hy => rfl); (case htk => (first | rfl | (simp [alook]; done))); (case hS => (first | exact SrcOk_bytes inferInstance (by first | rfl | assumption | (simp; done) | omega) | exact SrcOk_sl inferInstance (by simp) (by first | rfl | (simp only [List.all_cons, List.all_nil, bvA_one, Bool.and_self]; done) | simp [AV.one, bvA_ones]) | exact SrcOk_nils inferInstance | exact SrcOk_str inferInstance | exact SrcOk_isB inferInstance (by assumption))); (case hb => (first | (constructor <;> omega) | omega | (simp; done) | (simp; omega))); (case ht => (first | rfl | (simp only [asetF, if_true]; rfl))); (case hs => (simp only [aput, List.set_cons_succ, List.set_cons_zero]; rfl)))
      | ((with_reducible apply S_slice8_lh); (case hx => rfl); (case hy => rfl); (case hz => rfl); (case hl => rfl); (case hh => rfl); (case hlm => (first | (constructor <;> omega) | omega | (simp; done) | (simp; omega))); (case hs => (simp only [aput, List.set_cons_succ, List.set_cons_zero]; rfl)))
      | ((with_reducible apply S_slice8_h); (case hx => rfl); (case hz => rfl); (case hh => rfl); (case hlm => (first | (constructor <;> omega) | omega | (simp; done) | (simp; omega))); (case hs => (simp only [aput, List.set_cons_succ, List.set_cons_zero]; rfl)))
      | ((with_reducible apply S_slice8_l); (case hx => rfl); (case hy => rfl); (case hl => rfl); (case hlm => (first | (constructor <;> omega) | omega | (simp; done) | (simp; omega))); (case hs => (simp only [aput, List.set_cons_succ, List.set_cons_zero]; rfl)))
      | fail)
    refine ARet_ret rfl (.tmpO rfl (.tmpO rfl .nil)) ?_
    simp [aone, AV.fg, AV.fgL]
theorem expand_val {ak ai : AV} {key info : List UInt8} {N : Nat} (hk : IsB ak key) (h : IsB ai info) (hn : N ≤ 8160) (h1 : key.length ≤ 1000000) (h2 : info.length ≤ 1000000) : AVal Try.prog 21 [ak, ai, .int .i64 (N : Int)] (.tup [.sl .none ((exN key info N).map bvA) N, .int .i64 0]) := by
  refine AVal.fg ?_
  obtain ⟨a1, e1, hk1, s1, o1⟩ := hk.fgn
  obtain ⟨a2, e2, hk2, s2, o2⟩ := h.fgn
  simp only [AV.fgL, e1, e2, AV.fg]
  clear hk h e1 e2
  refine AVal.mk (by simp [AV.shutL, AV.shut, s1, s2]) (by simp [AV.shutL, AV.shut, shutL_bvA]) ?_
  refine ACalls_body Try.func21 rfl rfl ?_
  simp only [Try.ntmps21, List.length_cons, List.length_nil, Nat.reduceAdd, Nat.reduceSub, List.replicate_succ, List.replicate_zero, List.cons_append, List.nil_append]
  have d1 : decide ((N : Int) < 0) = false := by simp
  have d2 : decide ((N : Int) > 8160) = false := by simp; omega
  repeat (first
    | with_reducible refine AWP_seq ?_
    | with_reducible refine AWP_region ?_
    | with_reducible refine AOPS_nil ?_
    | with_reducible refine AThen_normal ?_
    | with_reducible refine AThen_ret ?_
    | with_reducible refine AThen_exit ?_
    | with_reducible refine ABlock_normal ?_
    | with_reducible refine ABlock_ret ?_
    | with_reducible refine ABlock_exit ?_
    | ((with_reducible apply ABlock_other); (case hij => rfl))
    | with_reducible refine ARound_ret ?_
    | with_reducible refine ARound_exit ?_
    | with_reducible refine ANext_normal ?_
    | with_reducible refine ANext_ret ?_
    | with_reducible refine ANext_exit ?_
    | with_reducible refine ARounds_step ?_
    | with_reducible refine ALoopQ_ret ?_
    | with_reducible refine ALoopQ_exit ?_
    | with_reducible refine AWP_block ?_
    | with_reducible refine AWP_skip ?_
    | with_reducible refine AWP_ret ?_
    | with_reducible refine AWP_exit ?_
    | ((with_reducible apply AWP_cond_t); (case hc => rfl); (case hb => (first | with_reducible assumption | with_reducible rfl | (simp only [d1, d2]; done) | (simp; done) | (simp; omega))))
    | ((with_reducible apply AWP_cond_f); (case hc => rfl); (case hb => (first | with_reducible assumption | with_reducible rfl | (simp only [d1, d2]; done) | (simp; done) | (simp; omega))))
    | ((with_reducible apply AOPS_guard_yes); (case hy => rfl); (case hb => (first | with_reducible assumption | with_reducible rfl | (simp only [d1, d2]; done) | (simp; done) | (simp; omega))))
    | ((with_reducible apply AOPS_guard_no); (case hy => rfl); (case hb => (first | with_reducible assumption | with_reducible rfl | (simp only [d1, d2]; done) | (simp; done) | (simp; omega))); (case hs => (simp only [aput, List.set_cons_succ, List.set_cons_zero]; rfl)))
    | ((with_reducible apply AOPS_guard_und); (case hy => rfl); (case hs => (simp only [aput, List.set_cons_succ, List.set_cons_zero]; rfl)))
    | ((with_reducible apply S_move); (case hx => rfl); (case hs => (simp only [aput, List.set_cons_succ, List.set_cons_zero]; rfl)))
    | ((with_reducible apply S_assign); (case hx => rfl); (case hs => (simp only [aput, List.set_cons_succ, List.set_cons_zero]; rfl)))
    | ((with_reducible apply S_pick_t); (case hc => rfl); (case hb => (first | with_reducible assumption | with_reducible rfl | (simp only [d1, d2]; done) | (simp; done) | (simp; omega))); (case hx => rfl); (case hs => (simp only [aput, List.set_cons_succ, List.set_cons_zero]; rfl)))
    | ((with_reducible apply S_pick_f); (case hc => rfl); (case hb => (first | with_reducible assumption | with_reducible rfl | (simp only [d1, d2]; done) | (simp; done) | (simp; omega))); (case hx => rfl); (case hs => (simp only [aput, List.set_cons_succ, List.set_cons_zero]; rfl)))
    | ((with_reducible apply AOPS_len_sl); (case hx => rfl); (case hs => (simp only [aput, List.set_cons_succ, List.set_cons_zero]; rfl)))
    | ((with_reducible apply AOPS_len_nils); (case hx => rfl); (case hs => (simp only [aput, List.set_cons_succ, List.set_cons_zero]; rfl)))
    | ((with_reducible apply AOPS_len_row); (case hx => rfl); (case hs => (simp only [aput, List.set_cons_succ, List.set_cons_zero]; rfl)))
    | ((with_reducible apply AOPS_len_str); (case hx => rfl); (case hs => (simp only [aput, List.set_cons_succ, List.set_cons_zero]; rfl)))
    | ((with_reducible apply S_len_isB); (case hx => rfl); (case hb => assumption); (case hs => (simp only [aput, List.set_cons_succ, List.set_cons_zero]; rfl)))
    | ((with_reducible apply S_inc8); (case hx => rfl); (case hy => rfl); (case hs => (simp only [aput, List.set_cons_succ, List.set_cons_zero]; rfl)))
    | ((with_reducible apply S_add); (case hx => rfl); (case hy => rfl); (case hb => (first | (constructor <;> omega) | omega | (simp; done) | (simp; omega))); (case hs => (simp only [aput, List.set_cons_succ, List.set_cons_zero]; rfl)))
    | ((with_reducible apply S_bin); (case hx => rfl); (case hy => rfl); (case ho => rfl); (case hs => (simp only [aput, List.set_cons_succ, List.set_cons_zero]; rfl)))
    | ((with_reducible apply AOPS_str); (case hx => rfl); (case hy => rfl); (case ho => rfl); (case hs => (simp only [aput, List.set_cons_succ, List.set_cons_zero]; rfl)))
    | ((with_reducible apply S_lit); (case hp => rfl); (case ho => (first | rfl | (simp only [List.all_cons, List.all_nil, Bool.and_true, Bool.and_self, bvA_one, sl_one, nils_one, str_one, d1, d2]; done) | (simp [AV.one, d1, d2]; done))); (case hl => rfl); (case hzl => rfl); (case hb => decide); (case hs => (simp only [aput, List.set_cons_succ, List.set_cons_zero]; rfl)))
    | ((with_reducible apply T_append_full); (case hx => rfl); (case hy => rfl); (case hS => (first | exact SrcOk_bytes inferInstance (by first | rfl | assumption | (simp; done) | omega) | exact SrcOk_sl inferInstance (by simp) (by first | rfl | (simp only [List.all_cons, List.all_nil, bvA_one, Bool.and_self]; done) | simp [AV.one, bvA_ones]) | exact SrcOk_nils inferInstance | exact SrcOk_str inferInstance | exact SrcOk_isB inferInstance (by assumption))); (case hl => (first | rfl | (simp; done))); (case hb => (first | (constructor <;> omega) | omega | (simp; done) | (simp; omega))); (case hs => (simp only [aput, List.set_cons_succ, List.set_cons_zero]; rfl)))
    | ((with_reducible apply T_append_nils); (case hx => rfl); (case hy => rfl); (case hS => (first | exact SrcOk_bytes inferInstance (by first | rfl | assumption | (simp; done) | omega) | exact SrcOk_sl inferInstance (by simp) (by first | rfl | (simp only [List.all_cons, List.all_nil, bvA_one, Bool.and_self]; done) | simp [AV.one, bvA_ones]) | exact SrcOk_nils inferInstance | exact SrcOk_str inferInstance | exact SrcOk_isB inferInstance (by assumption))); (case hb => (first | (constructor <;> omega) | omega | (simp; done) | (simp; omega))); (case hs => (simp only [aput, List.set_cons_succ, List.set_cons_zero]; rfl)))
    | ((with_reducible apply U_append_tok); (case hx => rfl); (case hy => rfl); (case htk => (first | rfl | (simp [alook]; done))); (case hS => (first | exact SrcOk_bytes inferInstance (by first | rfl | assumption | (simp; done) | omega) | exact SrcOk_sl inferInstance (by simp) (by first | rfl | (simp only [List.all_cons, List.all_nil, bvA_one, Bool.and_self]; done) | simp [AV.one, bvA_ones]) | exact SrcOk_nils inferInstance | exact SrcOk_str inferInstance | exact SrcOk_isB inferInstance (by assumption))); (case hb => (first | (constructor <;> omega) | omega | (simp; done) | (simp; omega))); (case ht => (first | rfl | (simp only [asetF, if_true]; rfl))); (case hs => (simp only [aput, List.set_cons_succ, List.set_cons_zero]; rfl)))
    | ((with_reducible apply S_slice8_lh); (case hx => rfl); (case hy => rfl); (case hz => rfl); (case hl => rfl); (case hh => rfl); (case hlm => (first | (constructor <;> omega) | omega | (simp; done) | (simp; omega))); (case hs => (simp only [aput, List.set_cons_succ, List.set_cons_zero]; rfl)))
    | ((with_reducible apply S_slice8_h); (case hx => rfl); (case hz => rfl); (case hh => rfl); (case hlm => (first | (constructor <;> omega) | omega | (simp; done) | (simp; omega))); (case hs => (simp only [aput, List.set_cons_succ, List.set_cons_zero]; rfl)))
    | ((with_reducible apply S_slice8_l); (case hx => rfl); (case hy => rfl); (case hl => rfl); (case hlm => (first | (constructor <;> omega) | omega | (simp; done) | (simp; omega))); (case hs => (simp only [aput, List.set_cons_succ, List.set_cons_zero]; rfl)))
    | fail)
  refine AWP_adopt 8 1 rfl (by simp only [setF]; rfl) ?_
  refine AWP_loopS [0, 1, 2, 8, 9, 10, 17, 18, 19, 20, 21, 22, 23, 24, 25, 26, 27, 28, 29, 30, 31, 32] (N := Nat × AV × List AV × UInt8 × List AV) (fun ⟨i, al, cs, y, js⟩ => [a1, a2, .int .i64 (N : Int), .sl (.tok 0 (32 * i) 1) cs (32 * i), al, bvA y, js.getD 0 .und, js.getD 1 .und, js.getD 2 .und, js.getD 3 .und, js.getD 4 .und, js.getD 5 .und, js.getD 6 .und, js.getD 7 .und, js.getD 8 .und, js.getD 9 .und, js.getD 10 .und, js.getD 11 .und, js.getD 12 .und, js.getD 13 .und, js.getD 14 .und, js.getD 15 .und]) (fun ⟨i, al, cs, y, js⟩ => ⟨[], [(0, 32 * i)], 1⟩) (fun ⟨i, al, cs, y, js⟩ => i ≤ 255 ∧ y = UInt8.ofNat (i + 1) ∧ IsB al (exB key info i) ∧ cs = (exAll key info i).map bvA) (fun ⟨i, al, cs, y, js⟩ => 256 - i) ⟨0, .nils, [], 1, [_, _, _, _, _, _, _, _, _, _, _, _, _, _, _, _]⟩ rfl rfl ?hi0 ?_
  rotate_left
  rintro ⟨i, al, cs, y, js⟩ sl_ hs hi
  simp only [setsF, setF, Option.some.injEq] at hs
  subst hs
  case hi0 => exact ⟨by omega, rfl, .nils, rfl⟩
  obtain ⟨hi, hy, hal, hcs⟩ := hi
  by_cases hlt : 32 * i < N
  · have hd : decide (((32 * i : Nat) : Int) < (N : Int)) = true := by simp only [decide_eq_true_eq]; omega
    have hle := exB_le key info i
    have hone := hal.one_
    have hbl : ([exB key info i, info, [y]] : List (List UInt8)).flatten.length ≤ 1000000000 := by simp; omega
    repeat' (first
      | with_reducible refine AWP_seq ?_
      | with_reducible refine AWP_region ?_
      | with_reducible refine AOPS_nil ?_
      | with_reducible refine AThen_normal ?_
      | with_reducible refine AThen_ret ?_
      | with_reducible refine AThen_exit ?_
      | with_reducible refine ABlock_normal ?_
      | with_reducible refine ABlock_ret ?_
      | with_reducible refine ABlock_exit ?_
      | ((with_reducible apply ABlock_other); (case hij => rfl))
      | with_reducible refine ARound_ret ?_
      | with_reducible refine ARound_exit ?_
      | with_reducible refine ANext_normal ?_
      | with_reducible refine ANext_ret ?_
      | with_reducible refine ANext_exit ?_
      | with_reducible refine ARounds_step ?_
      | with_reducible refine ALoopQ_ret ?_
      | with_reducible refine ALoopQ_exit ?_
      | with_reducible refine AWP_block ?_
      | with_reducible refine AWP_skip ?_
      | with_reducible refine AWP_ret ?_
      | with_reducible refine AWP_exit ?_
      | ((with_reducible apply AWP_cond_t); (case hc => rfl); (case hb => (first | with_reducible assumption | with_reducible rfl | (simp only [hd, hone, o2]; done) | (simp; done) | (simp; omega))))
      | ((with_reducible apply AWP_cond_f); (case hc => rfl); (case hb => (first | with_reducible assumption | with_reducible rfl | (simp only [hd, hone, o2]; done) | (simp; done) | (simp; omega))))
      | ((with_reducible apply AOPS_guard_yes); (case hy => rfl); (case hb => (first | with_reducible assumption | with_reducible rfl | (simp only [hd, hone, o2]; done) | (simp; done) | (simp; omega))))
      | ((with_reducible apply AOPS_guard_no); (case hy => rfl); (case hb => (first | with_reducible assumption | with_reducible rfl | (simp only [hd, hone, o2]; done) | (simp; done) | (simp; omega))); (case hs => (simp only [aput, List.set_cons_succ, List.set_cons_zero]; rfl)))
      | ((with_reducible apply AOPS_guard_und); (case hy => rfl); (case hs => (simp only [aput, List.set_cons_succ, List.set_cons_zero]; rfl)))
      | ((with_reducible apply S_move); (case hx => rfl); (case hs => (simp only [aput, List.set_cons_succ, List.set_cons_zero]; rfl)))
      | ((with_reducible apply S_assign); (case hx => rfl); (case hs => (simp only [aput, List.set_cons_succ, List.set_cons_zero]; rfl)))
      | ((with_reducible apply S_pick_t); (case hc => rfl); (case hb => (first | with_reducible assumption | with_reducible rfl | (simp only [hd, hone, o2]; done) | (simp; done) | (simp; omega))); (case hx => rfl); (case hs => (simp only [aput, List.set_cons_succ, List.set_cons_zero]; rfl)))
      | ((with_reducible apply S_pick_f); (case hc => rfl); (case hb => (first | with_reducible assumption | with_reducible rfl | (simp only [hd, hone, o2]; done) | (simp; done) | (simp; omega))); (case hx => rfl); (case hs => (simp only [aput, List.set_cons_succ, List.set_cons_zero]; rfl)))
      | ((with_reducible apply AOPS_len_sl); (case hx => rfl); (case hs => (simp only [aput, List.set_cons_succ, List.set_cons_zero]; rfl)))
      | ((with_reducible apply AOPS_len_nils); (case hx => rfl); (case hs => (simp only [aput, List.set_cons_succ, List.set_cons_zero]; rfl)))
      | ((with_reducible apply AOPS_len_row); (case hx => rfl); (case hs => (simp only [aput, List.set_cons_succ, List.set_cons_zero]; rfl)))
      | ((with_reducible apply AOPS_len_str); (case hx => rfl); (case hs => (simp only [aput, List.set_cons_succ, List.set_cons_zero]; rfl)))
      | ((with_reducible apply S_len_isB); (case hx => rfl); (case hb => assumption); (case hs => (simp only [aput, List.set_cons_succ, List.set_cons_zero]; rfl)))
      | ((with_reducible apply S_inc8); (case hx => rfl); (case hy => rfl); (case hs => (simp only [aput, List.set_cons_succ, List.set_cons_zero]; rfl)))
      | ((with_reducible apply S_add); (case hx => rfl); (case hy => rfl); (case hb => (first | (constructor <;> omega) | omega | (simp; done) | (simp; omega))); (case hs => (simp only [aput, List.set_cons_succ, List.set_cons_zero]; rfl)))
      | ((with_reducible apply S_bin); (case hx => rfl); (case hy => rfl); (case ho => rfl); (case hs => (simp only [aput, List.set_cons_succ, List.set_cons_zero]; rfl)))
      | ((with_reducible apply AOPS_str); (case hx => rfl); (case hy => rfl); (case ho => rfl); (case hs => (simp only [aput, List.set_cons_succ, List.set_cons_zero]; rfl)))
      | ((with_reducible apply S_lit); (case hp => rfl); (case ho => (first | rfl | (simp only [List.all_cons, List.all_nil, Bool.and_true, Bool.and_self, bvA_one, sl_one, nils_one, str_one, hd, hone, o2]; done) | (simp [AV.one, hd, hone, o2]; done))); (case hl => rfl); (case hzl => rfl); (case hb => decide); (case hs => (simp only [aput, List.set_cons_succ, List.set_cons_zero]; rfl)))
      | ((with_reducible apply T_append_full); (case hx => rfl); (case hy => rfl); (case hS => (first | exact SrcOk_bytes inferInstance (by first | rfl | assumption | (simp; done) | omega) | exact SrcOk_sl inferInstance (by simp) (by first | rfl | (simp only [List.all_cons, List.all_nil, bvA_one, Bool.and_self]; done) | simp [AV.one, bvA_ones]) | exact SrcOk_nils inferInstance | exact SrcOk_str inferInstance | exact SrcOk_isB inferInstance (by assumption))); (case hl => (first | rfl | (simp; done))); (case hb => (first | (constructor <;> omega) | omega | (simp; done) | (simp; omega))); (case hs => (simp only [aput, List.set_cons_succ, List.set_cons_zero]; rfl)))
      | ((with_reducible apply T_append_nils); (case hx => rfl); (case hy => rfl); (case hS => (first | exact SrcOk_bytes inferInstance (by first | rfl | assumption | (simp; done) | omega) | exact SrcOk_sl inferInstance (by simp) (by first | rfl | (simp only [List.all_cons, List.all_nil, bvA_one, Bool.and_self]; done) | simp [AV.one, bvA_ones]) | exact SrcOk_nils inferInstance | exact SrcOk_str inferInstance | exact SrcOk_isB inferInstance (by assumption))); (case hb => (first | (constructor <;> omega) | omega | (simp; done) | (simp; omega))); (case hs => (simp only [aput, List.set_cons_succ, List.set_cons_zero]; rfl)))
      | ((with_reducible apply U_append_tok); (case hx => rfl); (case hy => rfl); (case htk => (first | rfl | (simp [alook]; done))); (case hS => (first | exact SrcOk_bytes inferInstance (by first | rfl | assumption | (simp; done) | omega) | exact SrcOk_sl inferInstance (by simp) (by first | rfl | (simp only [List.all_cons, List.all_nil, bvA_one, Bool.and_self]; done) | simp [AV.one, bvA_ones]) | exact SrcOk_nils inferInstance | exact SrcOk_str inferInstance | exact SrcOk_isB inferInstance (by assumption))); (case hb => (first | (constructor <;> omega) | omega | (simp; done) | (simp; omega))); (case ht => (first | rfl | (simp only [asetF, if_true]; rfl))); (case hs => (simp only [aput, List.set_cons_succ, List.set_cons_zero]; rfl)))
      | ((with_reducible apply S_slice8_lh); (case hx => rfl); (case hy => rfl); (case hz => rfl); (case hl => rfl); (case hh => rfl); (case hlm => (first | (constructor <;> omega) | omega | (simp; done) | (simp; omega))); (case hs => (simp only [aput, List.set_cons_succ, List.set_cons_zero]; rfl)))
      | ((with_reducible apply S_slice8_h); (case hx => rfl); (case hz => rfl); (case hh => rfl); (case hlm => (first | (constructor <;> omega) | omega | (simp; done) | (simp; omega))); (case hs => (simp only [aput, List.set_cons_succ, List.set_cons_zero]; rfl)))
      | ((with_reducible apply S_slice8_l); (case hx => rfl); (case hy => rfl); (case hl => rfl); (case hlm => (first | (constructor <;> omega) | omega | (simp; done) | (simp; omega))); (case hs => (simp only [aput, List.set_cons_succ, List.set_cons_zero]; rfl)))
      | ((with_reducible apply S_call_val (g := 16)); (case hf => rfl); (case ha => rfl); (case h => exact (code_val (ls := [exB key info i, info, [y]]) hk1 (.cons hal (.cons hk2 (.cons (.one _ _) .nil))) rfl (by omega) hbl)); (case hc => exact (fun vs w => by kernel_rfl)); (case hs => (simp only [aput, List.set_cons_succ, List.set_cons_zero]; rfl)))
      | fail)
    have hnx : macB key [exB key info i, info, [y]].flatten = exB key info (i + 1) := by rw [exB_step, hy]; simp
    refine ALoopQ_normal ⟨i + 1, .sl .none ((macB key [exB key info i, info, [y]].flatten).map bvA) 32, cs ++ (macB key [exB key info i, info, [y]].flatten).map bvA, y + 1, [_, _, _, _, _, _, _, _, _, _, _, _, _, _, _, _]⟩ rfl rfl ?hi1 ?hm1
    case hi1 =>
      refine ⟨by omega, ?_, ?_, ?_⟩
      · rw [hy]; apply UInt8.toNat_inj.1; simp
      · rw [hnx]; exact IsB.mk' _ _ (exB_length _ _ _)
      · rw [hnx, hcs, ← List.map_append]; rfl
    case hm1 => simp only; omega
  · have hd : decide (((32 * i : Nat) : Int) < (N : Int)) = false := by simp only [decide_eq_false_iff_not]; omega
    subst hcs
    have hN : N ≤ 32 * i := by omega
    have hT : ((exAll key info i).take N).length = N := by rw [List.length_take, exAll_length]; omega
    repeat (first
      | with_reducible refine AWP_seq ?_
      | with_reducible refine AWP_region ?_
      | with_reducible refine AOPS_nil ?_
      | with_reducible refine AThen_normal ?_
      | with_reducible refine AThen_ret ?_
      | with_reducible refine AThen_exit ?_
      | with_reducible refine ABlock_normal ?_
      | with_reducible refine ABlock_ret ?_
      | with_reducible refine ABlock_exit ?_
      | ((with_reducible apply ABlock_other); (case hij => rfl))
      | with_reducible refine ARound_ret ?_
      | with_reducible refine ARound_exit ?_
      | with_reducible refine ANext_normal ?_
      | with_reducible refine ANext_ret ?_
      | with_reducible refine ANext_exit ?_
      | with_reducible refine ARounds_step ?_
      | with_reducible refine ALoopQ_ret ?_
      | with_reducible refine ALoopQ_exit ?_
      | with_reducible refine AWP_block ?_
      | with_reducible refine AWP_skip ?_
      | with_reducible refine AWP_ret ?_
      | with_reducible refine AWP_exit ?_
      | ((with_reducible apply AWP_cond_t); (case hc => rfl); (case hb => (first | with_reducible assumption | with_reducible rfl | (simp only [hd]; done) | (simp; done) | (simp; omega))))
      | ((with_reducible apply AWP_cond_f); (case hc => rfl); (case hb => (first | with_reducible assumption | with_reducible rfl | (simp only [hd]; done) | (simp; done) | (simp; omega))))
      | ((with_reducible apply AOPS_guard_yes); (case hy => rfl); (case hb => (first | with_reducible assumption | with_reducible rfl | (simp only [hd]; done) | (simp; done) | (simp; omega))))
      | ((with_reducible apply AOPS_guard_no); (case hy => rfl); (case hb => (first | with_reducible assumption | with_reducible rfl | (simp only [hd]; done) | (simp; done) | (simp; omega))); (case hs => (simp only [aput, List.set_cons_succ, List.set_cons_zero]; rfl)))
      | ((with_reducible apply AOPS_guard_und); (case hy => rfl); (case hs => (simp only [aput, List.set_cons_succ, List.set_cons_zero]; rfl)))
      | ((with_reducible apply S_move); (case hx => rfl); (case hs => (simp only [aput, List.set_cons_succ, List.set_cons_zero]; rfl)))
      | ((with_reducible apply S_assign); (case hx => rfl); (case hs => (simp only [aput, List.set_cons_succ, List.set_cons_zero]; rfl)))
      | ((with_reducible apply S_pick_t); (case hc => rfl); (case hb => (first | with_reducible assumption | with_reducible rfl | (simp only [hd]; done) | (simp; done) | (simp; omega))); (case hx => rfl); (case hs => (simp only [aput, List.set_cons_succ, List.set_cons_zero]; rfl)))
      | ((with_reducible apply S_pick_f); (case hc => rfl); (case hb => (first | with_reducible assumption | with_reducible rfl | (simp only [hd]; done) | (simp; done) | (simp; omega))); (case hx => rfl); (case hs => (simp only [aput, List.set_cons_succ, List.set_cons_zero]; rfl)))
      | ((with_reducible apply AOPS_len_sl); (case hx => rfl); (case hs => (simp only [aput, List.set_cons_succ, List.set_cons_zero]; rfl)))
      | ((with_reducible apply AOPS_len_nils); (case hx => rfl); (case hs => (simp only [aput, List.set_cons_succ, List.set_cons_zero]; rfl)))
      | ((with_reducible apply AOPS_len_row); (case hx => rfl); (case hs => (simp only [aput, List.set_cons_succ, List.set_cons_zero]; rfl)))
      | ((with_reducible apply AOPS_len_str); (case hx => rfl); (case hs => (simp only [aput, List.set_cons_succ, List.set_cons_zero]; rfl)))
      | ((with_reducible apply S_len_isB); (case hx => rfl); (case hb => assumption); (case hs => (simp only [aput, List.set_cons_succ, List.set_cons_zero]; rfl)))
      | ((with_reducible apply S_inc8); (case hx => rfl); (case hy => rfl); (case hs => (simp only [aput, List.set_cons_succ, List.set_cons_zero]; rfl)))
      | ((with_reducible apply S_add); (case hx => rfl); (case hy => rfl); (case hb => (first | (constructor <;> omega) | omega | (simp; done) | (simp; omega))); (case hs => (simp only [aput, List.set_cons_succ, List.set_cons_zero]; rfl)))
      | ((with_reducible apply S_bin); (case hx => rfl); (case hy => rfl); (case ho => rfl); (case hs => (simp only [aput, List.set_cons_succ, List.set_cons_zero]; rfl)))
      | ((with_reducible apply AOPS_str); (case hx => rfl); (case hy => rfl); (case ho => rfl); (case hs => (simp only [aput, List.set_cons_succ, List.set_cons_zero]; rfl)))
      | ((with_reducible apply S_lit); (case hp => rfl); (case ho => (first | rfl | (simp only [List.all_cons, List.all_nil, Bool.and_true, Bool.and_self, bvA_one, sl_one, nils_one, str_one, hd]; done) | (simp [AV.one, hd]; done))); (case hl => rfl); (case hzl => rfl); (case hb => decide); (case hs => (simp only [aput, List.set_cons_succ, List.set_cons_zero]; rfl)))
      | ((with_reducible apply T_append_full); (case hx => rfl); (case hy => rfl); (case hS => (first | exact SrcOk_bytes inferInstance (by first | rfl | assumption | (simp; done) | omega) | exact SrcOk_sl inferInstance (by simp) (by first | rfl | (simp only [List.all_cons, List.all_nil, bvA_one, Bool.and_self]; done) | simp [AV.one, bvA_ones]) | exact SrcOk_nils inferInstance | exact SrcOk_str inferInstance | exact SrcOk_isB inferInstance (by assumption))); (case hl => (first | rfl | (simp; done))); (case hb => (first | (constructor <;> omega) | omega | (simp; done) | (simp; omega))); (case hs => (simp only [aput, List.set_cons_succ, List.set_cons_zero]; rfl)))
      | ((with_reducible apply T_append_nils); (case hx => rfl); (case hy => rfl); (case hS => (first | exact SrcOk_bytes inferInstance (by first | rfl | assumption | (simp; done) | omega) | exact SrcOk_sl inferInstance (by simp) (by first | rfl | (simp only [List.all_cons, List.all_nil, bvA_one, Bool.and_self]; done) | simp [AV.one, bvA_ones]) | exact SrcOk_nils inferInstance | exact SrcOk_str inferInstance | exact SrcOk_isB inferInstance (by assumption))); (case hb => (first | (constructor <;> omega) | omega | (simp; done) | (simp; omega))); (case hs => (simp only [aput, List.set_cons_succ, List.set_cons_zero]; rfl)))
      | ((with_reducible apply U_append_tok); (case hx => rfl); (case hy => rfl); (case htk => (first | rfl | (simp [alook]; done))); (case hS => (first | exact SrcOk_bytes inferInstance (by first | rfl | assumption | (simp; done) | omega) | exact SrcOk_sl inferInstance (by simp) (by first | rfl | (simp only [List.all_cons, List.all_nil, bvA_one, Bool.and_self]; done) | simp [AV.one, bvA_ones]) | exact SrcOk_nils inferInstance | exact SrcOk_str inferInstance | exact SrcOk_isB inferInstance (by assumption))); (case hb => (first | (constructor <;> omega) | omega | (simp; done) | (simp; omega))); (case ht => (first | rfl | (simp only [asetF, if_true]; rfl))); (case hs => (simp only [aput, List.set_cons_succ, List.set_cons_zero]; rfl)))
      | ((with_reducible apply S_slice8_lh); (case hx => rfl); (case hy => rfl); (case hz => rfl); (case hl => rfl); (case hh => rfl); (case hlm => (first | (constructor <;> omega) | omega | (simp; done) | (simp; omega))); (case hs => (simp only [aput, List.set_cons_succ, List.set_cons_zero]; rfl)))
      | ((with_reducible apply S_slice8_h); (case hx => rfl); (case hz => rfl); (case hh => rfl); (case hlm => (first | (constructor <;> omega) | omega | (simp; done) | (simp; omega))); (case hs => (simp only [aput, List.set_cons_succ, List.set_cons_zero]; rfl)))
      | ((with_reducible apply S_slice8_l); (case hx => rfl); (case hy => rfl); (case hl => rfl); (case hlm => (first | (constructor <;> omega) | omega | (simp; done) | (simp; omega))); (case hs => (simp only [aput, List.set_cons_succ, List.set_cons_zero]; rfl)))
      | fail)
    refine ARet_ret rfl (.tmpO rfl (.tmpO rfl .nil)) ?_
    rw [exN_of hN hi]
    simp [aone, AV.fg, AV.fgL, fgL_bvA]
theorem rexpand_val {ak ai : AV} {key info : List UInt8} {N : Nat} (hk : IsB ak key) (h : IsB ai info) (hn : N ≤ 8160) (h1 : key.length ≤ 1000000) (h2 : info.length ≤ 800000) : AVal Try.prog 22 [ak, ai, .int .i64 (N : Int)] (.sl .none ((exN key info N).map bvA) N) := by
  refine AVal.fg ?_
  obtain ⟨a1, e1, hk1, s1, o1⟩ := hk.fgn
  obtain ⟨a2, e2, hk2, s2, o2⟩ := h.fgn
  simp only [AV.fgL, e1, e2, AV.fg]
  clear hk h e1 e2
  refine AVal.mk (by simp [AV.shutL, AV.shut, s1, s2]) (by simp [AV.shut, shutL_bvA]) ?_
  refine ACalls_body Try.func22 rfl rfl ?_
  simp only [Try.ntmps22, List.length_cons, List.length_nil, Nat.reduceAdd, Nat.reduceSub, List.replicate_succ, List.replicate_zero, List.cons_append, List.nil_append]
  repeat (first
    | with_reducible refine AWP_seq ?_
    | with_reducible refine AWP_region ?_
    | with_reducible refine AOPS_nil ?_
    | with_reducible refine AThen_normal ?_
    | with_reducible refine AThen_ret ?_
    | with_reducible refine AThen_exit ?_
    | with_reducible refine ABlock_normal ?_
    | with_reducible refine ABlock_ret ?_
    | with_reducible refine ABlock_exit ?_
    | ((with_reducible apply ABlock_other); (case hij => rfl))
    | with_reducible refine ARound_ret ?_
    | with_reducible refine ARound_exit ?_
    | with_reducible refine ANext_normal ?_
    | with_reducible refine ANext_ret ?_
    | with_reducible refine ANext_exit ?_
    | with_reducible refine ARounds_step ?_
    | with_reducible refine ALoopQ_ret ?_
    | with_reducible refine ALoopQ_exit ?_
    | with_reducible refine AWP_block ?_
    | with_reducible refine AWP_skip ?_
    | with_reducible refine AWP_ret ?_
    | with_reducible refine AWP_exit ?_
    | ((with_reducible apply AWP_cond_t); (case hc => rfl); (case hb => (first | with_reducible assumption | with_reducible rfl | (simp; done) | (simp; omega))))
    | ((with_reducible apply AWP_cond_f); (case hc => rfl); (case hb => (first | with_reducible assumption | with_reducible rfl | (simp; done) | (simp; omega))))
    | ((with_reducible apply S_move); (case hx => rfl); (case hs => (simp only [aput, List.set_cons_succ, List.set_cons_zero]; rfl)))
    | ((with_reducible apply S_assign); (case hx => rfl); (case hs => (simp only [aput, List.set_cons_succ, List.set_cons_zero]; rfl)))
    | ((with_reducible apply AOPS_len_sl); (case hx => rfl); (case hs => (simp only [aput, List.set_cons_succ, List.set_cons_zero]; rfl)))
    | ((with_reducible apply AOPS_len_nils); (case hx => rfl); (case hs => (simp only [aput, List.set_cons_succ, List.set_cons_zero]; rfl)))
    | ((with_reducible apply AOPS_len_row); (case hx => rfl); (case hs => (simp only [aput, List.set_cons_succ, List.set_cons_zero]; rfl)))
    | ((with_reducible apply AOPS_len_str); (case hx => rfl); (case hs => (simp only [aput, List.set_cons_succ, List.set_cons_zero]; rfl)))
    | ((with_reducible apply S_len_isB); (case hx => rfl); (case hb => assumption); (case hs => (simp only [aput, List.set_cons_succ, List.set_cons_zero]; rfl)))
    | ((with_reducible apply S_inc8); (case hx => rfl); (case hy => rfl); (case hs => (simp only [aput, List.set_cons_succ, List.set_cons_zero]; rfl)))
    | ((with_reducible apply S_add); (case hx => rfl); (case hy => rfl); (case hb => (first | (constructor <;> omega) | omega | (simp; done) | (simp; omega))); (case hs => (simp only [aput, List.set_cons_succ, List.set_cons_zero]; rfl)))
    | ((with_reducible apply S_bin); (case hx => rfl); (case hy => rfl); (case ho => rfl); (case hs => (simp only [aput, List.set_cons_succ, List.set_cons_zero]; rfl)))
    | ((with_reducible apply AOPS_str); (case hx => rfl); (case hy => rfl); (case ho => rfl); (case hs => (simp only [aput, List.set_cons_succ, List.set_cons_zero]; rfl)))
    | ((with_reducible apply S_conv_same); (case hx => rfl); (case hb => (first | (constructor <;> omega) | omega | (simp; done) | (simp; omega))); (case hs => (simp only [aput, List.set_cons_succ, List.set_cons_zero]; rfl)))
    | ((with_reducible apply S_conv_u8); (case hx => rfl); (case hs => (simp only [aput, List.set_cons_succ, List.set_cons_zero]; rfl)))
    | ((with_reducible apply S_conv_byte); (case hx => rfl); (case hs => (simp only [aput, List.set_cons_succ, List.set_cons_zero]; rfl)))
    | ((with_reducible apply AOPS_conv); (case hx => rfl); (case hs => (simp only [aput, List.set_cons_succ, List.set_cons_zero]; rfl)))
    | ((with_reducible apply S_lit); (case hp => rfl); (case ho => (first | rfl | (simp only [List.all_cons, List.all_nil, Bool.and_true, Bool.and_self, bvA_one, sl_one, nils_one, str_one]; done) | (simp [AV.one]; done))); (case hl => rfl); (case hzl => rfl); (case hb => decide); (case hs => (simp only [aput, List.set_cons_succ, List.set_cons_zero]; rfl)))
    | ((with_reducible apply T_append_full); (case hx => rfl); (case hy => rfl); (case hS => (first | exact SrcOk_bytes inferInstance (by first | rfl | assumption | (simp; done) | omega) | exact SrcOk_sl inferInstance (by simp) (by first | rfl | (simp only [List.all_cons, List.all_nil, bvA_one, Bool.and_self]; done) | simp [AV.one, bvA_ones]) | exact SrcOk_nils inferInstance | exact SrcOk_str inferInstance | exact SrcOk_isB inferInstance (by assumption))); (case hl => (first | rfl | (simp; done))); (case hb => (first | (constructor <;> omega) | omega | (simp; done) | (simp; omega))); (case hs => (simp only [aput, List.set_cons_succ, List.set_cons_zero]; rfl)))
    | ((with_reducible apply T_append_nils); (case hx => rfl); (case hy => rfl); (case hS => (first | exact SrcOk_bytes inferInstance (by first | rfl | assumption | (simp; done) | omega) | exact SrcOk_sl inferInstance (by simp) (by first | rfl | (simp only [List.all_cons, List.all_nil, bvA_one, Bool.and_self]; done) | simp [AV.one, bvA_ones]) | exact SrcOk_nils inferInstance | exact SrcOk_str inferInstance | exact SrcOk_isB inferInstance (by assumption))); (case hb => (first | (constructor <;> omega) | omega | (simp; done) | (simp; omega))); (case hs => (simp only [aput, List.set_cons_succ, List.set_cons_zero]; rfl)))
    | ((with_reducible apply U_append_tok); (case hx => rfl); (case hy => rfl); (case htk => (first | rfl | (simp [alook]; done))); (case hS => (first | exact SrcOk_bytes inferInstance (by first | rfl | assumption | (simp; done) | omega) | exact SrcOk_sl inferInstance (by simp) (by first | rfl | (simp only [List.all_cons, List.all_nil, bvA_one, Bool.and_self]; done) | simp [AV.one, bvA_ones]) | exact SrcOk_nils inferInstance | exact SrcOk_str inferInstance | exact SrcOk_isB inferInstance (by assumption))); (case hb => (first | (constructor <;> omega) | omega | (simp; done) | (simp; omega))); (case ht => (first | rfl | (simp only [asetF, if_true]; rfl))); (case hs => (simp only [aput, List.set_cons_succ, List.set_cons_zero]; rfl)))
    | ((with_reducible apply S_slice8_lh); (case hx => rfl); (case hy => rfl); (case hz => rfl); (case hl => rfl); (case hh => rfl); (case hlm => (first | (constructor <;> omega) | omega | (simp; done) | (simp; omega))); (case hs => (simp only [aput, List.set_cons_succ, List.set_cons_zero]; rfl)))
    | ((with_reducible apply S_slice8_h); (case hx => rfl); (case hz => rfl); (case hh => rfl); (case hlm => (first | (constructor <;> omega) | omega | (simp; done) | (simp; omega))); (case hs => (simp only [aput, List.set_cons_succ, List.set_cons_zero]; rfl)))
    | ((with_reducible apply S_slice8_l); (case hx => rfl); (case hy => rfl); (case hl => rfl); (case hlm => (first | (constructor <;> omega) | omega | (simp; done) | (simp; omega))); (case hs => (simp only [aput, List.set_cons_succ, List.set_cons_zero]; rfl)))
    | ((with_reducible apply AOPS_string); (case hx => rfl); (case hb => rfl); (case hl => (first | rfl | with_reducible assumption | (simp; done) | (simp; omega) | omega)); (case hs => (simp only [aput, List.set_cons_succ, List.set_cons_zero]; rfl)))
    | ((with_reducible apply AOPS_string_nils); (case hx => rfl); (case hs => (simp only [aput, List.set_cons_succ, List.set_cons_zero]; rfl)))
    | ((with_reducible apply S_string_isB); (case hx => rfl); (case hb => assumption); (case hs => (simp only [aput, List.set_cons_succ, List.set_cons_zero]; rfl)))
    | ((with_reducible apply AOPS_bytes); (case hx => rfl); (case hs => (simp only [aput, List.set_cons_succ, List.set_cons_zero]; rfl)))
    | fail)
  refine AWP_adopt 7 1 rfl (by simp only [setF]; rfl) ?_
  refine AWP_loopS [0, 1, 2, 7, 8, 9, 10, 11, 12, 13, 14, 15, 16, 17, 18, 19, 20, 21, 22, 23, 24, 25, 26, 27, 28, 29, 30, 31] (N := Nat × AV × List AV × Int × List AV) (fun ⟨i, al, cs, nx, js⟩ => [a1, a2, .int .i64 (N : Int), .sl (.tok 0 (32 * i) 1) cs (32 * i), al, .int .i64 ((i : Int) + 1), js.getD 0 .und, js.getD 1 .und, js.getD 2 .und, js.getD 3 .und, js.getD 4 .und, js.getD 5 .und, js.getD 6 .und, js.getD 7 .und, js.getD 8 .und, js.getD 9 .und, js.getD 10 .und, js.getD 11 .und, js.getD 12 .und, js.getD 13 .und, js.getD 14 .und, js.getD 15 .und, js.getD 16 .und, js.getD 17 .und, js.getD 18 .und, js.getD 19 .und, js.getD 20 .und, js.getD 21 .und]) (fun ⟨i, al, cs, nx, js⟩ => ⟨[], [(0, 32 * i)], nx⟩) (fun ⟨i, al, cs, nx, js⟩ => i ≤ 255 ∧ 1 ≤ nx ∧ IsB al (exB key info i) ∧ cs = (exAll key info i).map bvA) (fun ⟨i, al, cs, nx, js⟩ => 256 - i) ⟨0, .nils, [], 1, [_, _, _, _, _, _, _, _, _, _, _, _, _, _, _, _, _, _, _, _, _, _]⟩ rfl rfl ?hi0 ?_
  rotate_left
  rintro ⟨i, al, cs, nx, js⟩ sl_ hs hi
  simp only [setsF, setF, Option.some.injEq] at hs
  subst hs
  case hi0 => exact ⟨by omega, by omega, .nils, rfl⟩
  obtain ⟨hi, hnx0, hal, hcs⟩ := hi
  by_cases hlt : 32 * i < N
  · have hd : decide (((32 * i : Nat) : Int) < (N : Int)) = true := by simp only [decide_eq_true_eq]; omega
    have hle := exB_le key info i
    have hone := hal.one_
    repeat' (first
      | with_reducible refine AWP_seq ?_
      | ((fail_if_success (with_reducible refine At_region (id := 8) ?_)); with_reducible refine AWP_region ?_)
      | with_reducible refine AOPS_nil ?_
      | with_reducible refine AThen_normal ?_
      | with_reducible refine AThen_ret ?_
      | with_reducible refine AThen_exit ?_
      | with_reducible refine ABlock_normal ?_
      | with_reducible refine ABlock_ret ?_
      | with_reducible refine ABlock_exit ?_
      | ((with_reducible apply ABlock_other); (case hij => rfl))
      | with_reducible refine ARound_ret ?_
      | with_reducible refine ARound_exit ?_
      | with_reducible refine ANext_normal ?_
      | with_reducible refine ANext_ret ?_
      | with_reducible refine ANext_exit ?_
      | with_reducible refine ARounds_step ?_
      | with_reducible refine ALoopQ_ret ?_
      | with_reducible refine ALoopQ_exit ?_
      | with_reducible refine AWP_block ?_
      | with_reducible refine AWP_skip ?_
      | with_reducible refine AWP_ret ?_
      | with_reducible refine AWP_exit ?_
      | ((with_reducible apply AWP_cond_t); (case hc => rfl); (case hb => (first | with_reducible assumption | with_reducible rfl | (simp only [hd, hone, o2]; done) | (simp; done) | (simp; omega))))
      | ((with_reducible apply AWP_cond_f); (case hc => rfl); (case hb => (first | with_reducible assumption | with_reducible rfl | (simp only [hd, hone, o2]; done) | (simp; done) | (simp; omega))))
      | ((with_reducible apply S_move); (case hx => rfl); (case hs => (simp only [aput, List.set_cons_succ, List.set_cons_zero]; rfl)))
      | ((with_reducible apply S_assign); (case hx => rfl); (case hs => (simp only [aput, List.set_cons_succ, List.set_cons_zero]; rfl)))
      | ((with_reducible apply AOPS_len_sl); (case hx => rfl); (case hs => (simp only [aput, List.set_cons_succ, List.set_cons_zero]; rfl)))
      | ((with_reducible apply AOPS_len_nils); (case hx => rfl); (case hs => (simp only [aput, List.set_cons_succ, List.set_cons_zero]; rfl)))
      | ((with_reducible apply AOPS_len_row); (case hx => rfl); (case hs => (simp only [aput, List.set_cons_succ, List.set_cons_zero]; rfl)))
      | ((with_reducible apply AOPS_len_str); (case hx => rfl); (case hs => (simp only [aput, List.set_cons_succ, List.set_cons_zero]; rfl)))
      | ((with_reducible apply S_len_isB); (case hx => rfl); (case hb => assumption); (case hs => (simp only [aput, List.set_cons_succ, List.set_cons_zero]; rfl)))
      | ((with_reducible apply S_inc8); (case hx => rfl); (case hy => rfl); (case hs => (simp only [aput, List.set_cons_succ, List.set_cons_zero]; rfl)))
      | ((with_reducible apply S_add); (case hx => rfl); (case hy => rfl); (case hb => (first | (constructor <;> omega) | omega | (simp; done) | (simp; omega))); (case hs => (simp only [aput, List.set_cons_succ, List.set_cons_zero]; rfl)))
      | ((with_reducible apply S_bin); (case hx => rfl); (case hy => rfl); (case ho => rfl); (case hs => (simp only [aput, List.set_cons_succ, List.set_cons_zero]; rfl)))
      | ((with_reducible apply AOPS_str); (case hx => rfl); (case hy => rfl); (case ho => rfl); (case hs => (simp only [aput, List.set_cons_succ, List.set_cons_zero]; rfl)))
      | ((with_reducible apply S_conv_same); (case hx => rfl); (case hb => (first | (constructor <;> omega) | omega | (simp; done) | (simp; omega))); (case hs => (simp only [aput, List.set_cons_succ, List.set_cons_zero]; rfl)))
      | ((with_reducible apply S_conv_u8); (case hx => rfl); (case hs => (simp only [aput, List.set_cons_succ, List.set_cons_zero]; rfl)))
      | ((with_reducible apply S_conv_byte); (case hx => rfl); (case hs => (simp only [aput, List.set_cons_succ, List.set_cons_zero]; rfl)))
      | ((with_reducible apply AOPS_conv); (case hx => rfl); (case hs => (simp only [aput, List.set_cons_succ, List.set_cons_zero]; rfl)))
      | ((with_reducible apply S_lit); (case hp => rfl); (case ho => (first | rfl | (simp only [List.all_cons, List.all_nil, Bool.and_true, Bool.and_self, bvA_one, sl_one, nils_one, str_one, hd, hone, o2]; done) | (simp [AV.one, hd, hone, o2]; done))); (case hl => rfl); (case hzl => rfl); (case hb => decide); (case hs => (simp only [aput, List.set_cons_succ, List.set_cons_zero]; rfl)))
      | ((with_reducible apply T_append_full); (case hx => rfl); (case hy => rfl); (case hS => (first | exact SrcOk_bytes inferInstance (by first | rfl | assumption | (simp; done) | omega) | exact SrcOk_sl inferInstance (by simp) (by first | rfl | (simp only [List.all_cons, List.all_nil, bvA_one, Bool.and_self]; done) | simp [AV.one, bvA_ones]) | exact SrcOk_nils inferInstance | exact SrcOk_str inferInstance | exact SrcOk_isB inferInstance (by assumption))); (case hl => (first | rfl | (simp; done))); (case hb => (first | (constructor <;> omega) | omega | (simp; done) | (simp; omega))); (case hs => (simp only [aput, List.set_cons_succ, List.set_cons_zero]; rfl)))
      | ((with_reducible apply T_append_nils); (case hx => rfl); (case hy => rfl); (case hS => (first | exact SrcOk_bytes inferInstance (by first | rfl | assumption | (simp; done) | omega) | exact SrcOk_sl inferInstance (by simp) (by first | rfl | (simp only [List.all_cons, List.all_nil, bvA_one, Bool.and_self]; done) | simp [AV.one, bvA_ones]) | exact SrcOk_nils inferInstance | exact SrcOk_str inferInstance | exact SrcOk_isB inferInstance (by assumption))); (case hb => (first | (constructor <;> omega) | omega | (simp; done) | (simp; omega))); (case hs => (simp only [aput, List.set_cons_succ, List.set_cons_zero]; rfl)))
      | ((with_reducible apply U_append_tok); (case hx => rfl); (case hy => rfl); (case htk => (first | rfl | (simp [alook]; done))); (case hS => (first | exact SrcOk_bytes inferInstance (by first | rfl | assumption | (simp; done) | omega) | exact SrcOk_sl inferInstance (by simp) (by first | rfl | (simp only [List.all_cons, List.all_nil, bvA_one, Bool.and_self]; done) | simp [AV.one, bvA_ones]) | exact SrcOk_nils inferInstance | exact SrcOk_str inferInstance | exact SrcOk_isB inferInstance (by assumption))); (case hb => (first | (constructor <;> omega) | omega | (simp; done) | (simp; omega))); (case ht => (first | rfl | (simp only [asetF, if_true]; rfl))); (case hs => (simp only [aput, List.set_cons_succ, List.set_cons_zero]; rfl)))
      | ((with_reducible apply S_slice8_lh); (case hx => rfl); (case hy => rfl); (case hz => rfl); (case hl => rfl); (case hh => rfl); (case hlm => (first | (constructor <;> omega) | omega | (simp; done) | (simp; omega))); (case hs => (simp only [aput, List.set_cons_succ, List.set_cons_zero]; rfl)))
      | ((with_reducible apply S_slice8_h); (case hx => rfl); (case hz => rfl); (case hh => rfl); (case hlm => (first | (constructor <;> omega) | omega | (simp; done) | (simp; omega))); (case hs => (simp only [aput, List.set_cons_succ, List.set_cons_zero]; rfl)))
      | ((with_reducible apply S_slice8_l); (case hx => rfl); (case hy => rfl); (case hl => rfl); (case hlm => (first | (constructor <;> omega) | omega | (simp; done) | (simp; omega))); (case hs => (simp only [aput, List.set_cons_succ, List.set_cons_zero]; rfl)))
      | ((with_reducible apply AOPS_string); (case hx => rfl); (case hb => rfl); (case hl => (first | rfl | with_reducible assumption | (simp; done) | (simp; omega) | omega)); (case hs => (simp only [aput, List.set_cons_succ, List.set_cons_zero]; rfl)))
      | ((with_reducible apply AOPS_string_nils); (case hx => rfl); (case hs => (simp only [aput, List.set_cons_succ, List.set_cons_zero]; rfl)))
      | ((with_reducible apply S_string_isB); (case hx => rfl); (case hb => assumption); (case hs => (simp only [aput, List.set_cons_succ, List.set_cons_zero]; rfl)))
      | ((with_reducible apply AOPS_bytes); (case hx => rfl); (case hs => (simp only [aput, List.set_cons_succ, List.set_cons_zero]; rfl)))
      | ((with_reducible apply S_call_val (g := 17)); (case hf => rfl); (case ha => rfl); (case h => exact (rcode_val (msg := exB key info i ++ info ++ [UInt8.ofNat (((i : Int) + 1) % 256).toNat]) hk1 (IsB.of (by simp) (by simp; omega)) (by omega) (by simp; omega))); (case hc => exact (fun vs w => by kernel_rfl)); (case hs => (simp only [aput, List.set_cons_succ, List.set_cons_zero]; rfl)))
      | fail)
    have hx : UInt8.ofNat (((i : Int) + 1) % 256).toNat = UInt8.ofNat (i + 1) := by apply UInt8.toNat_inj.1; simp; omega
    have hnx : macB key (exB key info i ++ info ++ [UInt8.ofNat (((i : Int) + 1) % 256).toNat]) = exB key info (i + 1) := by rw [exB_step, hx]
    rw [hnx]
    have hE := exB_length key info i
    refine AWP_forget [(0, 32 * i)] (fun id t ht => ?_) ?_
    · simp only [alook] at ht ⊢
      split at ht
      · rename_i h0; subst h0; rw [if_neg (by omega)]; simpa using ht
      · cases ht
    repeat (first
      | with_reducible refine AWP_seq ?_
      | with_reducible refine AWP_region ?_
      | with_reducible refine AOPS_nil ?_
      | with_reducible refine AThen_normal ?_
      | with_reducible refine AThen_ret ?_
      | with_reducible refine AThen_exit ?_
      | with_reducible refine ABlock_normal ?_
      | with_reducible refine ABlock_ret ?_
      | with_reducible refine ABlock_exit ?_
      | ((with_reducible apply ABlock_other); (case hij => rfl))
      | with_reducible refine ARound_ret ?_
      | with_reducible refine ARound_exit ?_
      | with_reducible refine ANext_normal ?_
      | with_reducible refine ANext_ret ?_
      | with_reducible refine ANext_exit ?_
      | with_reducible refine ARounds_step ?_
      | with_reducible refine ALoopQ_ret ?_
      | with_reducible refine ALoopQ_exit ?_
      | with_reducible refine AWP_block ?_
      | with_reducible refine AWP_skip ?_
      | with_reducible refine AWP_ret ?_
      | with_reducible refine AWP_exit ?_
      | ((with_reducible apply AWP_cond_t); (case hc => rfl); (case hb => (first | with_reducible assumption | with_reducible rfl | (simp; done) | (simp; omega))))
      | ((with_reducible apply AWP_cond_f); (case hc => rfl); (case hb => (first | with_reducible assumption | with_reducible rfl | (simp; done) | (simp; omega))))
      | ((with_reducible apply S_move); (case hx => rfl); (case hs => (simp only [aput, List.set_cons_succ, List.set_cons_zero]; rfl)))
      | ((with_reducible apply S_assign); (case hx => rfl); (case hs => (simp only [aput, List.set_cons_succ, List.set_cons_zero]; rfl)))
      | ((with_reducible apply AOPS_len_sl); (case hx => rfl); (case hs => (simp only [aput, List.set_cons_succ, List.set_cons_zero]; rfl)))
      | ((with_reducible apply AOPS_len_nils); (case hx => rfl); (case hs => (simp only [aput, List.set_cons_succ, List.set_cons_zero]; rfl)))
      | ((with_reducible apply AOPS_len_row); (case hx => rfl); (case hs => (simp only [aput, List.set_cons_succ, List.set_cons_zero]; rfl)))
      | ((with_reducible apply AOPS_len_str); (case hx => rfl); (case hs => (simp only [aput, List.set_cons_succ, List.set_cons_zero]; rfl)))
      | ((with_reducible apply S_len_isB); (case hx => rfl); (case hb => assumption); (case hs => (simp only [aput, List.set_cons_succ, List.set_cons_zero]; rfl)))
      | ((with_reducible apply S_inc8); (case hx => rfl); (case hy => rfl); (case hs => (simp only [aput, List.set_cons_succ, List.set_cons_zero]; rfl)))
      | ((with_reducible apply S_add); (case hx => rfl); (case hy => rfl); (case hb => (first | (constructor <;> omega) | omega | (simp; done) | (simp; omega))); (case hs => (simp only [aput, List.set_cons_succ, List.set_cons_zero]; rfl)))
      | ((with_reducible apply S_bin); (case hx => rfl); (case hy => rfl); (case ho => rfl); (case hs => (simp only [aput, List.set_cons_succ, List.set_cons_zero]; rfl)))
      | ((with_reducible apply AOPS_str); (case hx => rfl); (case hy => rfl); (case ho => rfl); (case hs => (simp only [aput, List.set_cons_succ, List.set_cons_zero]; rfl)))
      | ((with_reducible apply S_conv_same); (case hx => rfl); (case hb => (first | (constructor <;> omega) | omega | (simp; done) | (simp; omega))); (case hs => (simp only [aput, List.set_cons_succ, List.set_cons_zero]; rfl)))
      | ((with_reducible apply S_conv_u8); (case hx => rfl); (case hs => (simp only [aput, List.set_cons_succ, List.set_cons_zero]; rfl)))
      | ((with_reducible apply S_conv_byte); (case hx => rfl); (case hs => (simp only [aput, List.set_cons_succ, List.set_cons_zero]; rfl)))
      | ((with_reducible apply AOPS_conv); (case hx => rfl); (case hs => (simp only [aput, List.set_cons_succ, List.set_cons_zero]; rfl)))
      | ((with_reducible apply S_lit); (case hp => rfl); (case ho => (first | rfl | (simp only [List.all_cons, List.all_nil, Bool.and_true, Bool.and_self, bvA_one, sl_one, nils_one, str_one]; done) | (simp [AV.one]; done))); (case hl => rfl); (case hzl => rfl); (case hb => decide); (case hs => (simp only [aput, List.set_cons_succ, List.set_cons_zero]; rfl)))
      | ((with_reducible apply T_append_full); (case hx => rfl); (case hy => rfl); (case hS => (first | exact SrcOk_bytes inferInstance (by first | rfl | assumption | (simp; done) | omega) | exact SrcOk_sl inferInstance (by simp) (by first | rfl | (simp only [List.all_cons, List.all_nil, bvA_one, Bool.and_self]; done) | simp [AV.one, bvA_ones]) | exact SrcOk_nils inferInstance | exact SrcOk_str inferInstance | exact SrcOk_isB inferInstance (by assumption))); (case hl => (first | rfl | (simp; done))); (case hb => (first | (constructor <;> omega) | omega | (simp; done) | (simp; omega))); (case hs => (simp only [aput, List.set_cons_succ, List.set_cons_zero]; rfl)))
      | ((with_reducible apply T_append_nils); (case hx => rfl); (case hy => rfl); (case hS => (first | exact SrcOk_bytes inferInstance (by first | rfl | assumption | (simp; done) | omega) | exact SrcOk_sl inferInstance (by simp) (by first | rfl | (simp only [List.all_cons, List.all_nil, bvA_one, Bool.and_self]; done) | simp [AV.one, bvA_ones]) | exact SrcOk_nils inferInstance | exact SrcOk_str inferInstance | exact SrcOk_isB inferInstance (by assumption))); (case hb => (first | (constructor <;> omega) | omega | (simp; done) | (simp; omega))); (case hs => (simp only [aput, List.set_cons_succ, List.set_cons_zero]; rfl)))
      | ((with_reducible apply U_append_tok); (case hx => rfl); (case hy => rfl); (case htk => (first | rfl | (simp [alook]; done))); (case hS => (first | exact SrcOk_bytes inferInstance (by first | rfl | assumption | (simp; done) | omega) | exact SrcOk_sl inferInstance (by simp) (by first | rfl | (simp only [List.all_cons, List.all_nil, bvA_one, Bool.and_self]; done) | simp [AV.one, bvA_ones]) | exact SrcOk_nils inferInstance | exact SrcOk_str inferInstance | exact SrcOk_isB inferInstance (by assumption))); (case hb => (first | (constructor <;> omega) | omega | (simp; done) | (simp; omega))); (case ht => (first | rfl | (simp only [asetF, if_true]; rfl))); (case hs => (simp only [aput, List.set_cons_succ, List.set_cons_zero]; rfl)))
      | ((with_reducible apply S_slice8_lh); (case hx => rfl); (case hy => rfl); (case hz => rfl); (case hl => rfl); (case hh => rfl); (case hlm => (first | (constructor <;> omega) | omega | (simp; done) | (simp; omega))); (case hs => (simp only [aput, List.set_cons_succ, List.set_cons_zero]; rfl)))
      | ((with_reducible apply S_slice8_h); (case hx => rfl); (case hz => rfl); (case hh => rfl); (case hlm => (first | (constructor <;> omega) | omega | (simp; done) | (simp; omega))); (case hs => (simp only [aput, List.set_cons_succ, List.set_cons_zero]; rfl)))
      | ((with_reducible apply S_slice8_l); (case hx => rfl); (case hy => rfl); (case hl => rfl); (case hlm => (first | (constructor <;> omega) | omega | (simp; done) | (simp; omega))); (case hs => (simp only [aput, List.set_cons_succ, List.set_cons_zero]; rfl)))
      | ((with_reducible apply AOPS_string); (case hx => rfl); (case hb => rfl); (case hl => (first | rfl | with_reducible assumption | (simp; done) | (simp; omega) | omega)); (case hs => (simp only [aput, List.set_cons_succ, List.set_cons_zero]; rfl)))
      | ((with_reducible apply AOPS_string_nils); (case hx => rfl); (case hs => (simp only [aput, List.set_cons_succ, List.set_cons_zero]; rfl)))
      | ((with_reducible apply S_string_isB); (case hx => rfl); (case hb => assumption); (case hs => (simp only [aput, List.set_cons_succ, List.set_cons_zero]; rfl)))
      | ((with_reducible apply AOPS_bytes); (case hx => rfl); (case hs => (simp only [aput, List.set_cons_succ, List.set_cons_zero]; rfl)))
      | fail)
    refine ALoopQ_normal ⟨i + 1, .sl .none ((exB key info (i + 1)).map bvA) 32, cs ++ (exB key info (i + 1)).map bvA, nx + 1, [_, _, _, _, _, _, _, _, _, _, _, _, _, _, _, _, _, _, _, _, _, _]⟩ rfl rfl ?hi1 ?hm1
    case hi1 =>
      refine ⟨by omega, by omega, IsB.mk' _ _ hE, ?_⟩
      rw [hcs, ← List.map_append]; rfl
    case hm1 => simp only; omega
  · have hd : decide (((32 * i : Nat) : Int) < (N : Int)) = false := by simp only [decide_eq_false_iff_not]; omega
    subst hcs
    have hN : N ≤ 32 * i := by omega
    repeat (first
      | with_reducible refine AWP_seq ?_
      | with_reducible refine AWP_region ?_
      | with_reducible refine AOPS_nil ?_
      | with_reducible refine AThen_normal ?_
      | with_reducible refine AThen_ret ?_
      | with_reducible refine AThen_exit ?_
      | with_reducible refine ABlock_normal ?_
      | with_reducible refine ABlock_ret ?_
      | with_reducible refine ABlock_exit ?_
      | ((with_reducible apply ABlock_other); (case hij => rfl))
      | with_reducible refine ARound_ret ?_
      | with_reducible refine ARound_exit ?_
      | with_reducible refine ANext_normal ?_
      | with_reducible refine ANext_ret ?_
      | with_reducible refine ANext_exit ?_
      | with_reducible refine ARounds_step ?_
      | with_reducible refine ALoopQ_ret ?_
      | with_reducible refine ALoopQ_exit ?_
      | with_reducible refine AWP_block ?_
      | with_reducible refine AWP_skip ?_
      | with_reducible refine AWP_ret ?_
      | with_reducible refine AWP_exit ?_
      | ((with_reducible apply AWP_cond_t); (case hc => rfl); (case hb => (first | with_reducible assumption | with_reducible rfl | (simp only [hd]; done) | (simp; done) | (simp; omega))))
      | ((with_reducible apply AWP_cond_f); (case hc => rfl); (case hb => (first | with_reducible assumption | with_reducible rfl | (simp only [hd]; done) | (simp; done) | (simp; omega))))
      | ((with_reducible apply S_move); (case hx => rfl); (case hs => (simp only [aput, List.set_cons_succ, List.set_cons_zero]; rfl)))
      | ((with_reducible apply S_assign); (case hx => rfl); (case hs => (simp only [aput, List.set_cons_succ, List.set_cons_zero]; rfl)))
      | ((with_reducible apply AOPS_len_sl); (case hx => rfl); (case hs => (simp only [aput, List.set_cons_succ, List.set_cons_zero]; rfl)))
      | ((with_reducible apply AOPS_len_nils); (case hx => rfl); (case hs => (simp only [aput, List.set_cons_succ, List.set_cons_zero]; rfl)))
      | ((with_reducible apply AOPS_len_row); (case hx => rfl); (case hs => (simp only [aput, List.set_cons_succ, List.set_cons_zero]; rfl)))
      | ((with_reducible apply AOPS_len_str); (case hx => rfl); (case hs => (simp only [aput, List.set_cons_succ, List.set_cons_zero]; rfl)))
      | ((with_reducible apply S_len_isB); (case hx => rfl); (case hb => assumption); (case hs => (simp only [aput, List.set_cons_succ, List.set_cons_zero]; rfl)))
      | ((with_reducible apply S_inc8); (case hx => rfl); (case hy => rfl); (case hs => (simp only [aput, List.set_cons_succ, List.set_cons_zero]; rfl)))
      | ((with_reducible apply S_add); (case hx => rfl); (case hy => rfl); (case hb => (first | (constructor <;> omega) | omega | (simp; done) | (simp; omega))); (case hs => (simp only [aput, List.set_cons_succ, List.set_cons_zero]; rfl)))
      | ((with_reducible apply S_bin); (case hx => rfl); (case hy => rfl); (case ho => rfl); (case hs => (simp only [aput, List.set_cons_succ, List.set_cons_zero]; rfl)))
      | ((with_reducible apply AOPS_str); (case hx => rfl); (case hy => rfl); (case ho => rfl); (case hs => (simp only [aput, List.set_cons_succ, List.set_cons_zero]; rfl)))
      | ((with_reducible apply S_conv_same); (case hx => rfl); (case hb => (first | (constructor <;> omega) | omega | (simp; done) | (simp; omega))); (case hs => (simp only [aput, List.set_cons_succ, List.set_cons_zero]; rfl)))
      | ((with_reducible apply S_conv_u8); (case hx => rfl); (case hs => (simp only [aput, List.set_cons_succ, List.set_cons_zero]; rfl)))
      | ((with_reducible apply S_conv_byte); (case hx => rfl); (case hs => (simp only [aput, List.set_cons_succ, List.set_cons_zero]; rfl)))
      | ((with_reducible apply AOPS_conv); (case hx => rfl); (case hs => (simp only [aput, List.set_cons_succ, List.set_cons_zero]; rfl)))
      | ((with_reducible apply S_lit); (case hp => rfl); (case ho => (first | rfl | (simp only [List.all_cons, List.all_nil, Bool.and_true, Bool.and_self, bvA_one, sl_one, nils_one, str_one, hd]; done) | (simp [AV.one, hd]; done))); (case hl => rfl); (case hzl => rfl); (case hb => decide); (case hs => (simp only [aput, List.set_cons_succ, List.set_cons_zero]; rfl)))
      | ((with_reducible apply T_append_full); (case hx => rfl); (case hy => rfl); (case hS => (first | exact SrcOk_bytes inferInstance (by first | rfl | assumption | (simp; done) | omega) | exact SrcOk_sl inferInstance (by simp) (by first | rfl | (simp only [List.all_cons, List.all_nil, bvA_one, Bool.and_self]; done) | simp [AV.one, bvA_ones]) | exact SrcOk_nils inferInstance | exact SrcOk_str inferInstance | exact SrcOk_isB inferInstance (by assumption))); (case hl => (first | rfl | (simp; done))); (case hb => (first | (constructor <;> omega) | omega | (simp; done) | (simp; omega))); (case hs => (simp only [aput, List.set_cons_succ, List.set_cons_zero]; rfl)))
      | ((with_reducible apply T_append_nils); (case hx => rfl); (case hy => rfl); (case hS => (first | exact SrcOk_bytes inferInstance (by first | rfl | assumption | (simp; done) | omega) | exact SrcOk_sl inferInstance (by simp) (by first | rfl | (simp only [List.all_cons, List.all_nil, bvA_one, Bool.and_self]; done) | simp [AV.one, bvA_ones]) | exact SrcOk_nils inferInstance | exact SrcOk_str inferInstance | exact SrcOk_isB inferInstance (by assumption))); (case hb => (first | (constructor <;> omega) | omega | (simp; done) | (simp; omega))); (case hs => (simp only [aput, List.set_cons_succ, List.set_cons_zero]; rfl)))
      | ((with_reducible apply U_append_tok); (case hx => rfl); (case hy => rfl); (case htk => (first | rfl | (simp [alook]; done))); (case hS => (first | exact SrcOk_bytes inferInstance (by first | rfl | assumption | (simp; done) | omega) | exact SrcOk_sl inferInstance (by simp) (by first | rfl | (simp only [List.all_cons, List.all_nil, bvA_one, Bool.and_self]; done) | simp [AV.one, bvA_ones]) | exact SrcOk_nils inferInstance | exact SrcOk_str inferInstance | exact SrcOk_isB inferInstance (by assumption))); (case hb => (first | (constructor <;> omega) | omega | (simp; done) | (simp; omega))); (case ht => (first | rfl | (simp only [asetF, if_true]; rfl))); (case hs => (simp only [aput, List.set_cons_succ, List.set_cons_zero]; rfl)))
      | ((with_reducible apply S_slice8_lh); (case hx => rfl); (case hy => rfl); (case hz => rfl); (case hl => rfl); (case hh => rfl); (case hlm => (first | (constructor <;> omega) | omega | (simp; done) | (simp; omega))); (case hs => (simp only [aput, List.set_cons_succ, List.set_cons_zero]; rfl)))
      | ((with_reducible apply S_slice8_h); (case hx => rfl); (case hz => rfl); (case hh => rfl); (case hlm => (first | (constructor <;> omega) | omega | (simp; done) | (simp; omega))); (case hs => (simp only [aput, List.set_cons_succ, List.set_cons_zero]; rfl)))
      | ((with_reducible apply S_slice8_l); (case hx => rfl); (case hy => rfl); (case hl => rfl); (case hlm => (first | (constructor <;> omega) | omega | (simp; done) | (simp; omega))); (case hs => (simp only [aput, List.set_cons_succ, List.set_cons_zero]; rfl)))
      | ((with_reducible apply AOPS_string); (case hx => rfl); (case hb => rfl); (case hl => (first | rfl | with_reducible assumption | (simp; done) | (simp; omega) | omega)); (case hs => (simp only [aput, List.set_cons_succ, List.set_cons_zero]; rfl)))
      | ((with_reducible apply AOPS_string_nils); (case hx => rfl); (case hs => (simp only [aput, List.set_cons_succ, List.set_cons_zero]; rfl)))
      | ((with_reducible apply S_string_isB); (case hx => rfl); (case hb => assumption); (case hs => (simp only [aput, List.set_cons_succ, List.set_cons_zero]; rfl)))
      | ((with_reducible apply AOPS_bytes); (case hx => rfl); (case hs => (simp only [aput, List.set_cons_succ, List.set_cons_zero]; rfl)))
      | fail)
    refine ARet_ret rfl (.tmpO rfl .nil) ?_
    rw [exN_of hN hi]
    simp [aone, AV.fg, fgL_bvA]
end Go.Proofs.Ytdekfobcdmlelaa
