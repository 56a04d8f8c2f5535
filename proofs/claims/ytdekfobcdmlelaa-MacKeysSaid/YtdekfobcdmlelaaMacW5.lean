/- MacKeys. -/
import Derived.Test.YtdekfobcdmlelaaMacV
namespace Go.Proofs.Ytdekfobcdmlelaa
open Go.RowKit
set_option linter.unusedVariables false
set_option linter.unusedSimpArgs false
set_option maxRecDepth 10000
set_option maxHeartbeats 4000000
variable {M : MM} {w : World}
theorem MacKeys_law (key : List UInt8) (zeros : Int) (m : List UInt8) : ACalls Try.prog 3 [.sl .none (key.map bvA) key.length, .int .i64 zeros, .sl .none (m.map bvA) m.length] ⟨[], [], 0⟩ (fun rv _ => rv = .bool true) := by
  refine ACalls_body Try.func3 rfl rfl ?_
  simp only [Try.ntmps3, List.length_cons, List.length_nil, Nat.reduceAdd, Nat.reduceSub, List.replicate_succ, List.replicate_zero, List.cons_append, List.nil_append]
  by_cases h1 : 200 < key.length
  · have d1 : decide ((key.length : Int) > 200) = true := by simp; omega
    repeat' (first
      | with_reducible refine AWP_seq ?_
      | with_reducible refine AWP_region ?_
      | with_reducible refine AOPS_nil ?_
      | with_reducible refine AThen_normal ?_
      | with_reducible refine AThen_ret ?_
      | with_reducible refine AThen_exit ?_
      | with_reducible refine ARound_ret ?_
      | with_reducible refine ARound_exit ?_
      | with_reducible refine AWP_skip ?_
      | with_reducible refine AWP_ret ?_
      | with_reducible refine AWP_exit ?_
      | ((with_reducible apply AWP_cond_t); (case hc => rfl); (case hb => (first | with_reducible assumption | with_reducible rfl | (simp only [d1]; done) | (simp; done) | (simp; omega))))
      | ((with_reducible apply AWP_cond_f); (case hc => rfl); (case hb => (first | with_reducible assumption | with_reducible rfl | (simp only [d1]; done) | (simp; done) | (simp; omega))))
      | ((with_reducible apply AOPS_guard_yes); (case hy => rfl); (case hb => (first | with_reducible assumption | with_reducible rfl | (simp only [d1]; done) | (simp; done) | (simp; omega))))
      | ((with_reducible apply AOPS_guard_no); (case hy => rfl); (case hb => (first | with_reducible assumption | with_reducible rfl | (simp only [d1]; done) | (simp; done) | (simp; omega))); (case hs => (simp only [aput, List.set_cons_succ, List.set_cons_zero]; rfl)))
      | ((with_reducible apply AOPS_guard_und); (case hy => rfl); (case hs => (simp only [aput, List.set_cons_succ, List.set_cons_zero]; rfl)))
      | ((with_reducible apply S_move); (case hx => rfl); (case hs => (simp only [aput, List.set_cons_succ, List.set_cons_zero]; rfl)))
      | ((with_reducible apply S_assign); (case hx => rfl); (case hs => (simp only [aput, List.set_cons_succ, List.set_cons_zero]; rfl)))
      | ((with_reducible apply S_pick_t); (case hc => rfl); (case hb => (first | with_reducible assumption | with_reducible rfl | (simp only [d1]; done) | (simp; done) | (simp; omega))); (case hx => rfl); (case hs => (simp only [aput, List.set_cons_succ, List.set_cons_zero]; rfl)))
      | ((with_reducible apply S_pick_f); (case hc => rfl); (case hb => (first | with_reducible assumption | with_reducible rfl | (simp only [d1]; done) | (simp; done) | (simp; omega))); (case hx => rfl); (case hs => (simp only [aput, List.set_cons_succ, List.set_cons_zero]; rfl)))
      | ((with_reducible apply AOPS_not); (case hx => rfl); (case hs => (simp only [aput, List.set_cons_succ, List.set_cons_zero]; rfl)))
      | ((with_reducible apply AOPS_len_sl); (case hx => rfl); (case hs => (simp only [aput, List.set_cons_succ, List.set_cons_zero]; rfl)))
      | ((with_reducible apply AOPS_len_nils); (case hx => rfl); (case hs => (simp only [aput, List.set_cons_succ, List.set_cons_zero]; rfl)))
      | ((with_reducible apply AOPS_len_row); (case hx => rfl); (case hs => (simp only [aput, List.set_cons_succ, List.set_cons_zero]; rfl)))
      | ((with_reducible apply AOPS_len_str); (case hx => rfl); (case hs => (simp only [aput, List.set_cons_succ, List.set_cons_zero]; rfl)))
      | ((with_reducible apply S_len_isB); (case hx => rfl); (case hb => assumption); (case hs => (simp only [aput, List.set_cons_succ, List.set_cons_zero]; rfl)))
      | ((with_reducible apply S_eq8); (case hx => rfl); (case hy => rfl); (case hs => (simp only [aput, List.set_cons_succ, List.set_cons_zero]; rfl)))
      | ((with_reducible apply S_bin); (case hx => rfl); (case hy => rfl); (case ho => rfl); (case hs => (simp only [aput, List.set_cons_succ, List.set_cons_zero]; rfl)))
      | ((with_reducible apply AOPS_str); (case hx => rfl); (case hy => rfl); (case ho => rfl); (case hs => (simp only [aput, List.set_cons_succ, List.set_cons_zero]; rfl)))
      | ((with_reducible apply AOPS_beq); (case hx => rfl); (case hy => rfl); (case hs => (simp only [aput, List.set_cons_succ, List.set_cons_zero]; rfl)))
      | ((with_reducible apply S_conv_same); (case hx => rfl); (case hb => (first | (constructor <;> omega) | omega | (simp; done) | (simp; omega))); (case hs => (simp only [aput, List.set_cons_succ, List.set_cons_zero]; rfl)))
      | ((with_reducible apply S_conv_u8); (case hx => rfl); (case hs => (simp only [aput, List.set_cons_succ, List.set_cons_zero]; rfl)))
      | ((with_reducible apply S_conv_byte); (case hx => rfl); (case hs => (simp only [aput, List.set_cons_succ, List.set_cons_zero]; rfl)))
      | ((with_reducible apply AOPS_conv); (case hx => rfl); (case hs => (simp only [aput, List.set_cons_succ, List.set_cons_zero]; rfl)))
      | ((with_reducible apply S_lit); (case hp => rfl); (case ho => (first | rfl | (simp only [List.all_cons, List.all_nil, Bool.and_true, Bool.and_self, bvA_one, sl_one, nils_one, str_one, d1]; done) | (simp [AV.one, d1]; done))); (case hl => rfl); (case hzl => rfl); (case hb => decide); (case hs => (simp only [aput, List.set_cons_succ, List.set_cons_zero]; rfl)))
      | ((with_reducible apply T_append_full); (case hx => rfl); (case hy => rfl); (case hS => (first | exact SrcOk_bytes inferInstance (by first | rfl | assumption | (simp; done) | omega) | exact SrcOk_sl inferInstance (by simp) (by first | rfl | (simp only [List.all_cons, List.all_nil, bvA_one, Bool.and_self]; done) | simp [AV.one, bvA_ones]) | exact SrcOk_nils inferInstance | exact SrcOk_str inferInstance | exact SrcOk_isB inferInstance (by assumption))); (case hl => (first | rfl | (simp; done))); (case hb => (first | (constructor <;> omega) | omega | (simp; done) | (simp; omega))); (case hs => (simp only [aput, List.set_cons_succ, List.set_cons_zero]; rfl)))
      | ((with_reducible apply T_append_nils); (case hx => rfl); (case hy => rfl); (case hS => (first | exact SrcOk_bytes inferInstance (by first | rfl | assumption | (simp; done) | omega) | exact SrcOk_sl inferInstance (by simp) (by first | rfl | (simp only [List.all_cons, List.all_nil, bvA_one, Bool.and_self]; done) | simp [AV.one, bvA_ones]) | exact SrcOk_nils inferInstance | exact SrcOk_str inferInstance | exact SrcOk_isB inferInstance (by assumption))); (case hb => (first | (constructor <;> omega) | omega | (simp; done) | (simp; omega))); (case hs => (simp only [aput, List.set_cons_succ, List.set_cons_zero]; rfl)))
      | ((with_reducible apply U_append_tok); (case hx => rfl); (case hy => rfl); (case htk => (first | rfl | (simp [alook]; done))); (case hS => (first | exact SrcOk_bytes inferInstance (by first | rfl | assumption | (simp; done) | omega) | exact SrcOk_sl inferInstance (by simp) (by first | rfl | (simp only [List.all_cons, List.all_nil, bvA_one, Bool.and_self]; done) | simp [AV.one, bvA_ones]) | exact SrcOk_nils inferInstance | exact SrcOk_str inferInstance | exact SrcOk_isB inferInstance (by assumption))); (case hb => (first | (constructor <;> omega) | omega | (simp; done) | (simp; omega))); (case ht => (first | rfl | (simp only [asetF, if_true]; rfl))); (case hs => (simp only [aput, List.set_cons_succ, List.set_cons_zero]; rfl)))
      | ((with_reducible apply AOPS_string); (case hx => rfl); (case hb => rfl); (case hl => (first | rfl | with_reducible assumption | (simp; done) | (simp; omega) | omega)); (case hs => (simp only [aput, List.set_cons_succ, List.set_cons_zero]; rfl)))
      | ((with_reducible apply AOPS_string_nils); (case hx => rfl); (case hs => (simp only [aput, List.set_cons_succ, List.set_cons_zero]; rfl)))
      | ((with_reducible apply S_string_isB); (case hx => rfl); (case hb => assumption); (case hs => (simp only [aput, List.set_cons_succ, List.set_cons_zero]; rfl)))
      | ((with_reducible apply AOPS_bytes); (case hx => rfl); (case hs => (simp only [aput, List.set_cons_succ, List.set_cons_zero]; rfl)))
      | ((with_reducible apply S_call_val (g := 15)); (case hf => rfl); (case ha => rfl); (case h => exact anchor2_val); (case hc => exact (fun vs w => by kernel_rfl)); (case hs => (simp only [aput, List.set_cons_succ, List.set_cons_zero]; rfl)))
      | fail)
    refine ARet_ret rfl (.tmpO rfl .nil) ?_
    rfl
  have d1 : decide ((key.length : Int) > 200) = false := by simp; omega
  by_cases h2 : 200 < m.length
  · have d2 : decide ((m.length : Int) > 200) = true := by simp; omega
    repeat' (first
      | with_reducible refine AWP_seq ?_
      | with_reducible refine AWP_region ?_
      | with_reducible refine AOPS_nil ?_
      | with_reducible refine AThen_normal ?_
      | with_reducible refine AThen_ret ?_
      | with_reducible refine AThen_exit ?_
      | with_reducible refine ARound_ret ?_
      | with_reducible refine ARound_exit ?_
      | with_reducible refine AWP_skip ?_
      | with_reducible refine AWP_ret ?_
      | with_reducible refine AWP_exit ?_
      | ((with_reducible apply AWP_cond_t); (case hc => rfl); (case hb => (first | with_reducible assumption | with_reducible rfl | (simp only [d1, d2]; done) | (simp; done) | (simp; omega))))
      | ((with_reducible apply AWP_cond_f); (case hc => rfl); (case hb => (first | with_reducible assumption | with_reducible rfl | (simp only [d1, d2]; done) | (simp; done) | (simp; omega))))
      | ((with_reducible apply AOPS_guard_yes); (case hy => rfl); (case hb => (first | with_reducible assumption | with_reducible rfl | (simp only [d1, d2]; done) | (simp; done) | (simp; omega))))
      | ((with_reducible apply AOPS_guard_no); (case hy => rfl); (case hb => (first | with_reducible assumption | with_reducible rfl | (simp only [d1, d2]; done) | (simp; done) | (simp; omega))); (case hs => (simp only [aput, List.set_cons_succ, List.set_cons_zero]; rfl)))
      | ((with_reducible apply AOPS_guard_und); (case hy => rfl); (case hs => (simp only [aput, List.set_cons_succ, List.set_cons_zero]; rfl)))
      | ((with_reducible apply S_move); (case hx => rfl); (case hs => (simp only [aput, List.set_cons_succ, List.set_cons_zero]; rfl)))
      | ((with_reducible apply S_assign); (case hx => rfl); (case hs => (simp only [aput, List.set_cons_succ, List.set_cons_zero]; rfl)))
      | ((with_reducible apply S_pick_t); (case hc => rfl); (case hb => (first | with_reducible assumption | with_reducible rfl | (simp only [d1, d2]; done) | (simp; done) | (simp; omega))); (case hx => rfl); (case hs => (simp only [aput, List.set_cons_succ, List.set_cons_zero]; rfl)))
      | ((with_reducible apply S_pick_f); (case hc => rfl); (case hb => (first | with_reducible assumption | with_reducible rfl | (simp only [d1, d2]; done) | (simp; done) | (simp; omega))); (case hx => rfl); (case hs => (simp only [aput, List.set_cons_succ, List.set_cons_zero]; rfl)))
      | ((with_reducible apply AOPS_not); (case hx => rfl); (case hs => (simp only [aput, List.set_cons_succ, List.set_cons_zero]; rfl)))
      | ((with_reducible apply AOPS_len_sl); (case hx => rfl); (case hs => (simp only [aput, List.set_cons_succ, List.set_cons_zero]; rfl)))
      | ((with_reducible apply AOPS_len_nils); (case hx => rfl); (case hs => (simp only [aput, List.set_cons_succ, List.set_cons_zero]; rfl)))
      | ((with_reducible apply AOPS_len_row); (case hx => rfl); (case hs => (simp only [aput, List.set_cons_succ, List.set_cons_zero]; rfl)))
      | ((with_reducible apply AOPS_len_str); (case hx => rfl); (case hs => (simp only [aput, List.set_cons_succ, List.set_cons_zero]; rfl)))
      | ((with_reducible apply S_len_isB); (case hx => rfl); (case hb => assumption); (case hs => (simp only [aput, List.set_cons_succ, List.set_cons_zero]; rfl)))
      | ((with_reducible apply S_eq8); (case hx => rfl); (case hy => rfl); (case hs => (simp only [aput, List.set_cons_succ, List.set_cons_zero]; rfl)))
      | ((with_reducible apply S_bin); (case hx => rfl); (case hy => rfl); (case ho => rfl); (case hs => (simp only [aput, List.set_cons_succ, List.set_cons_zero]; rfl)))
      | ((with_reducible apply AOPS_str); (case hx => rfl); (case hy => rfl); (case ho => rfl); (case hs => (simp only [aput, List.set_cons_succ, List.set_cons_zero]; rfl)))
      | ((with_reducible apply AOPS_beq); (case hx => rfl); (case hy => rfl); (case hs => (simp only [aput, List.set_cons_succ, List.set_cons_zero]; rfl)))
      | ((with_reducible apply S_conv_same); (case hx => rfl); (case hb => (first | (constructor <;> omega) | omega | (simp; done) | (simp; omega))); (case hs => (simp only [aput, List.set_cons_succ, List.set_cons_zero]; rfl)))
      | ((with_reducible apply S_conv_u8); (case hx => rfl); (case hs => (simp only [aput, List.set_cons_succ, List.set_cons_zero]; rfl)))
      | ((with_reducible apply S_conv_byte); (case hx => rfl); (case hs => (simp only [aput, List.set_cons_succ, List.set_cons_zero]; rfl)))
      | ((with_reducible apply AOPS_conv); (case hx => rfl); (case hs => (simp only [aput, List.set_cons_succ, List.set_cons_zero]; rfl)))
      | ((with_reducible apply S_lit); (case hp => rfl); (case ho => (first | rfl | (simp only [List.all_cons, List.all_nil, Bool.and_true, Bool.and_self, bvA_one, sl_one, nils_one, str_one, d1, d2]; done) | (simp [AV.one, d1, d2]; done))); (case hl => rfl); (case hzl => rfl); (case hb => decide); (case hs => (simp only [aput, List.set_cons_succ, List.set_cons_zero]; rfl)))
      | ((with_reducible apply T_append_full); (case hx => rfl); (case hy => rfl); (case hS => (first | exact SrcOk_bytes inferInstance (by first | rfl | assumption | (simp; done) | omega) | exact SrcOk_sl inferInstance (by simp) (by first | rfl | (simp only [List.all_cons, List.all_nil, bvA_one, Bool.and_self]; done) | simp [AV.one, bvA_ones]) | exact SrcOk_nils inferInstance | exact SrcOk_str inferInstance | exact SrcOk_isB inferInstance (by assumption))); (case hl => (first | rfl | (simp; done))); (case hb => (first | (constructor <;> omega) | omega | (simp; done) | (simp; omega))); (case hs => (simp only [aput, List.set_cons_succ, List.set_cons_zero]; rfl)))
      | ((with_reducible apply T_append_nils); (case hx => rfl); (case hy => rfl); (case hS => (first | exact SrcOk_bytes inferInstance (by first | rfl | assumption | (simp; done) | omega) | exact SrcOk_sl inferInstance (by simp) (by first | rfl | (simp only [List.all_cons, List.all_nil, bvA_one, Bool.and_self]; done) | simp [AV.one, bvA_ones]) | exact SrcOk_nils inferInstance | exact SrcOk_str inferInstance | exact SrcOk_isB inferInstance (by assumption))); (case hb => (first | (constructor <;> omega) | omega | (simp; done) | (simp; omega))); (case hs => (simp only [aput, List.set_cons_succ, List.set_cons_zero]; rfl)))
      | ((with_reducible apply U_append_tok); (case hx => rfl); (case hy => rfl); (case htk => (first | rfl | (simp [alook]; done))); (case hS => (first | exact SrcOk_bytes inferInstance (by first | rfl | assumption | (simp; done) | omega) | exact SrcOk_sl inferInstance (by simp) (by first | rfl | (simp only [List.all_cons, List.all_nil, bvA_one, Bool.and_self]; done) | simp [AV.one, bvA_ones]) | exact SrcOk_nils inferInstance | exact SrcOk_str inferInstance | exact SrcOk_isB inferInstance (by assumption))); (case hb => (first | (constructor <;> omega) | omega | (simp; done) | (simp; omega))); (case ht => (first | rfl | (simp only [asetF, if_true]; rfl))); (case hs => (simp only [aput, List.set_cons_succ, List.set_cons_zero]; rfl)))
      | ((with_reducible apply AOPS_string); (case hx => rfl); (case hb => rfl); (case hl => (first | rfl | with_reducible assumption | (simp; done) | (simp; omega) | omega)); (case hs => (simp only [aput, List.set_cons_succ, List.set_cons_zero]; rfl)))
      | ((with_reducible apply AOPS_string_nils); (case hx => rfl); (case hs => (simp only [aput, List.set_cons_succ, List.set_cons_zero]; rfl)))
      | ((with_reducible apply S_string_isB); (case hx => rfl); (case hb => assumption); (case hs => (simp only [aput, List.set_cons_succ, List.set_cons_zero]; rfl)))
      | ((with_reducible apply AOPS_bytes); (case hx => rfl); (case hs => (simp only [aput, List.set_cons_succ, List.set_cons_zero]; rfl)))
      | ((with_reducible apply S_call_val (g := 15)); (case hf => rfl); (case ha => rfl); (case h => exact anchor2_val); (case hc => exact (fun vs w => by kernel_rfl)); (case hs => (simp only [aput, List.set_cons_succ, List.set_cons_zero]; rfl)))
      | fail)
    refine ARet_ret rfl (.tmpO rfl .nil) ?_
    rfl
  have d2 : decide ((m.length : Int) > 200) = false := by simp; omega
  by_cases h3 : zeros < 0
  · have d3 : decide (zeros < 0) = true := by simpa using h3
    repeat' (first
      | with_reducible refine AWP_seq ?_
      | with_reducible refine AWP_region ?_
      | with_reducible refine AOPS_nil ?_
      | with_reducible refine AThen_normal ?_
      | with_reducible refine AThen_ret ?_
      | with_reducible refine AThen_exit ?_
      | with_reducible refine ARound_ret ?_
      | with_reducible refine ARound_exit ?_
      | with_reducible refine AWP_skip ?_
      | with_reducible refine AWP_ret ?_
      | with_reducible refine AWP_exit ?_
      | ((with_reducible apply AWP_cond_t); (case hc => rfl); (case hb => (first | with_reducible assumption | with_reducible rfl | (simp only [d1, d2, d3]; done) | (simp; done) | (simp; omega))))
      | ((with_reducible apply AWP_cond_f); (case hc => rfl); (case hb => (first | with_reducible assumption | with_reducible rfl | (simp only [d1, d2, d3]; done) | (simp; done) | (simp; omega))))
      | ((with_reducible apply AOPS_guard_yes); (case hy => rfl); (case hb => (first | with_reducible assumption | with_reducible rfl | (simp only [d1, d2, d3]; done) | (simp; done) | (simp; omega))))
      | ((with_reducible apply AOPS_guard_no); (case hy => rfl); (case hb => (first | with_reducible assumption | with_reducible rfl | (simp only [d1, d2, d3]; done) | (simp; done) | (simp; omega))); (case hs => (simp only [aput, List.set_cons_succ, List.set_cons_zero]; rfl)))
      | ((with_reducible apply AOPS_guard_und); (case hy => rfl); (case hs => (simp only [aput, List.set_cons_succ, List.set_cons_zero]; rfl)))
      | ((with_reducible apply S_move); (case hx => rfl); (case hs => (simp only [aput, List.set_cons_succ, List.set_cons_zero]; rfl)))
      | ((with_reducible apply S_assign); (case hx => rfl); (case hs => (simp only [aput, List.set_cons_succ, List.set_cons_zero]; rfl)))
      | ((with_reducible apply S_pick_t); (case hc => rfl); (case hb => (first | with_reducible assumption | with_reducible rfl | (simp only [d1, d2, d3]; done) | (simp; done) | (simp; omega))); (case hx => rfl); (case hs => (simp only [aput, List.set_cons_succ, List.set_cons_zero]; rfl)))
      | ((with_reducible apply S_pick_f); (case hc => rfl); (case hb => (first | with_reducible assumption | with_reducible rfl | (simp only [d1, d2, d3]; done) | (simp; done) | (simp; omega))); (case hx => rfl); (case hs => (simp only [aput, List.set_cons_succ, List.set_cons_zero]; rfl)))
      | ((with_reducible apply AOPS_not); (case hx => rfl); (case hs => (simp only [aput, List.set_cons_succ, List.set_cons_zero]; rfl)))
      | ((with_reducible apply AOPS_len_sl); (case hx => rfl); (case hs => (simp only [aput, List.set_cons_succ, List.set_cons_zero]; rfl)))
      | ((with_reducible apply AOPS_len_nils); (case hx => rfl); (case hs => (simp only [aput, List.set_cons_succ, List.set_cons_zero]; rfl)))
      | ((with_reducible apply AOPS_len_row); (case hx => rfl); (case hs => (simp only [aput, List.set_cons_succ, List.set_cons_zero]; rfl)))
      | ((with_reducible apply AOPS_len_str); (case hx => rfl); (case hs => (simp only [aput, List.set_cons_succ, List.set_cons_zero]; rfl)))
      | ((with_reducible apply S_len_isB); (case hx => rfl); (case hb => assumption); (case hs => (simp only [aput, List.set_cons_succ, List.set_cons_zero]; rfl)))
      | ((with_reducible apply S_eq8); (case hx => rfl); (case hy => rfl); (case hs => (simp only [aput, List.set_cons_succ, List.set_cons_zero]; rfl)))
      | ((with_reducible apply S_bin); (case hx => rfl); (case hy => rfl); (case ho => rfl); (case hs => (simp only [aput, List.set_cons_succ, List.set_cons_zero]; rfl)))
      | ((with_reducible apply AOPS_str); (case hx => rfl); (case hy => rfl); (case ho => rfl); (case hs => (simp only [aput, List.set_cons_succ, List.set_cons_zero]; rfl)))
      | ((with_reducible apply AOPS_beq); (case hx => rfl); (case hy => rfl); (case hs => (simp only [aput, List.set_cons_succ, List.set_cons_zero]; rfl)))
      | ((with_reducible apply S_conv_same); (case hx => rfl); (case hb => (first | (constructor <;> omega) | omega | (simp; done) | (simp; omega))); (case hs => (simp only [aput, List.set_cons_succ, List.set_cons_zero]; rfl)))
      | ((with_reducible apply S_conv_u8); (case hx => rfl); (case hs => (simp only [aput, List.set_cons_succ, List.set_cons_zero]; rfl)))
      | ((with_reducible apply S_conv_byte); (case hx => rfl); (case hs => (simp only [aput, List.set_cons_succ, List.set_cons_zero]; rfl)))
      | ((with_reducible apply AOPS_conv); (case hx => rfl); (case hs => (simp only [aput, List.set_cons_succ, List.set_cons_zero]; rfl)))
      | ((with_reducible apply S_lit); (case hp => rfl); (case ho => (first | rfl | (simp only [List.all_cons, List.all_nil, Bool.and_true, Bool.and_self, bvA_one, sl_one, nils_one, str_one, d1, d2, d3]; done) | (simp [AV.one, d1, d2, d3]; done))); (case hl => rfl); (case hzl => rfl); (case hb => decide); (case hs => (simp only [aput, List.set_cons_succ, List.set_cons_zero]; rfl)))
      | ((with_reducible apply T_append_full); (case hx => rfl); (case hy => rfl); (case hS => (first | exact SrcOk_bytes inferInstance (by first | rfl | assumption | (simp; done) | omega) | exact SrcOk_sl inferInstance (by simp) (by first | rfl | (simp only [List.all_cons, List.all_nil, bvA_one, Bool.and_self]; done) | simp [AV.one, bvA_ones]) | exact SrcOk_nils inferInstance | exact SrcOk_str inferInstance | exact SrcOk_isB inferInstance (by assumption))); (case hl => (first | rfl | (simp; done))); (case hb => (first | (constructor <;> omega) | omega | (simp; done) | (simp; omega))); (case hs => (simp only [aput, List.set_cons_succ, List.set_cons_zero]; rfl)))
      | ((with_reducible apply T_append_nils); (case hx => rfl); (case hy => rfl); (case hS => (first | exact SrcOk_bytes inferInstance (by first | rfl | assumption | (simp; done) | omega) | exact SrcOk_sl inferInstance (by simp) (by first | rfl | (simp only [List.all_cons, List.all_nil, bvA_one, Bool.and_self]; done) | simp [AV.one, bvA_ones]) | exact SrcOk_nils inferInstance | exact SrcOk_str inferInstance | exact SrcOk_isB inferInstance (by assumption))); (case hb => (first | (constructor <;> omega) | omega | (simp; done) | (simp; omega))); (case hs => (simp only [aput, List.set_cons_succ, List.set_cons_zero]; rfl)))
      | ((with_reducible apply U_append_tok); (case hx => rfl); (case hy => rfl); (case htk => (first | rfl | (simp [alook]; done))); (case hS => (first | exact SrcOk_bytes inferInstance (by first | rfl | assumption | (simp; done) | omega) | exact SrcOk_sl inferInstance (by simp) (by first | rfl | (simp only [List.all_cons, List.all_nil, bvA_one, Bool.and_self]; done) | simp [AV.one, bvA_ones]) | exact SrcOk_nils inferInstance | exact SrcOk_str inferInstance | exact SrcOk_isB inferInstance (by assumption))); (case hb => (first | (constructor <;> omega) | omega | (simp; done) | (simp; omega))); (case ht => (first | rfl | (simp only [asetF, if_true]; rfl))); (case hs => (simp only [aput, List.set_cons_succ, List.set_cons_zero]; rfl)))
      | ((with_reducible apply AOPS_string); (case hx => rfl); (case hb => rfl); (case hl => (first | rfl | with_reducible assumption | (simp; done) | (simp; omega) | omega)); (case hs => (simp only [aput, List.set_cons_succ, List.set_cons_zero]; rfl)))
      | ((with_reducible apply AOPS_string_nils); (case hx => rfl); (case hs => (simp only [aput, List.set_cons_succ, List.set_cons_zero]; rfl)))
      | ((with_reducible apply S_string_isB); (case hx => rfl); (case hb => assumption); (case hs => (simp only [aput, List.set_cons_succ, List.set_cons_zero]; rfl)))
      | ((with_reducible apply AOPS_bytes); (case hx => rfl); (case hs => (simp only [aput, List.set_cons_succ, List.set_cons_zero]; rfl)))
      | ((with_reducible apply S_call_val (g := 15)); (case hf => rfl); (case ha => rfl); (case h => exact anchor2_val); (case hc => exact (fun vs w => by kernel_rfl)); (case hs => (simp only [aput, List.set_cons_succ, List.set_cons_zero]; rfl)))
      | fail)
    refine ARet_ret rfl (.tmpO rfl .nil) ?_
    rfl
  have d3 : decide (zeros < 0) = false := by simpa using h3
  by_cases h4 : 64 < zeros
  · have d4 : decide (zeros > 64) = true := by simp; omega
    repeat' (first
      | with_reducible refine AWP_seq ?_
      | with_reducible refine AWP_region ?_
      | with_reducible refine AOPS_nil ?_
      | with_reducible refine AThen_normal ?_
      | with_reducible refine AThen_ret ?_
      | with_reducible refine AThen_exit ?_
      | with_reducible refine ARound_ret ?_
      | with_reducible refine ARound_exit ?_
      | with_reducible refine AWP_skip ?_
      | with_reducible refine AWP_ret ?_
      | with_reducible refine AWP_exit ?_
      | ((with_reducible apply AWP_cond_t); (case hc => rfl); (case hb => (first | with_reducible assumption | with_reducible rfl | (simp only [d1, d2, d3, d4]; done) | (simp; done) | (simp; omega))))
      | ((with_reducible apply AWP_cond_f); (case hc => rfl); (case hb => (first | with_reducible assumption | with_reducible rfl | (simp only [d1, d2, d3, d4]; done) | (simp; done) | (simp; omega))))
      | ((with_reducible apply AOPS_guard_yes); (case hy => rfl); (case hb => (first | with_reducible assumption | with_reducible rfl | (simp only [d1, d2, d3, d4]; done) | (simp; done) | (simp; omega))))
      | ((with_reducible apply AOPS_guard_no); (case hy => rfl); (case hb => (first | with_reducible assumption | with_reducible rfl | (simp only [d1, d2, d3, d4]; done) | (simp; done) | (simp; omega))); (case hs => (simp only [aput, List.set_cons_succ, List.set_cons_zero]; rfl)))
      | ((with_reducible apply AOPS_guard_und); (case hy => rfl); (case hs => (simp only [aput, List.set_cons_succ, List.set_cons_zero]; rfl)))
      | ((with_reducible apply S_move); (case hx => rfl); (case hs => (simp only [aput, List.set_cons_succ, List.set_cons_zero]; rfl)))
      | ((with_reducible apply S_assign); (case hx => rfl); (case hs => (simp only [aput, List.set_cons_succ, List.set_cons_zero]; rfl)))
      | ((with_reducible apply S_pick_t); (case hc => rfl); (case hb => (first | with_reducible assumption | with_reducible rfl | (simp only [d1, d2, d3, d4]; done) | (simp; done) | (simp; omega))); (case hx => rfl); (case hs => (simp only [aput, List.set_cons_succ, List.set_cons_zero]; rfl)))
      | ((with_reducible apply S_pick_f); (case hc => rfl); (case hb => (first | with_reducible assumption | with_reducible rfl | (simp only [d1, d2, d3, d4]; done) | (simp; done) | (simp; omega))); (case hx => rfl); (case hs => (simp only [aput, List.set_cons_succ, List.set_cons_zero]; rfl)))
      | ((with_reducible apply AOPS_not); (case hx => rfl); (case hs => (simp only [aput, List.set_cons_succ, List.set_cons_zero]; rfl)))
      | ((with_reducible apply AOPS_len_sl); (case hx => rfl); (case hs => (simp only [aput, List.set_cons_succ, List.set_cons_zero]; rfl)))
      | ((with_reducible apply AOPS_len_nils); (case hx => rfl); (case hs => (simp only [aput, List.set_cons_succ, List.set_cons_zero]; rfl)))
      | ((with_reducible apply AOPS_len_row); (case hx => rfl); (case hs => (simp only [aput, List.set_cons_succ, List.set_cons_zero]; rfl)))
      | ((with_reducible apply AOPS_len_str); (case hx => rfl); (case hs => (simp only [aput, List.set_cons_succ, List.set_cons_zero]; rfl)))
      | ((with_reducible apply S_len_isB); (case hx => rfl); (case hb => assumption); (case hs => (simp only [aput, List.set_cons_succ, List.set_cons_zero]; rfl)))
      | ((with_reducible apply S_eq8); (case hx => rfl); (case hy => rfl); (case hs => (simp only [aput, List.set_cons_succ, List.set_cons_zero]; rfl)))
      | ((with_reducible apply S_bin); (case hx => rfl); (case hy => rfl); (case ho => rfl); (case hs => (simp only [aput, List.set_cons_succ, List.set_cons_zero]; rfl)))
      | ((with_reducible apply AOPS_str); (case hx => rfl); (case hy => rfl); (case ho => rfl); (case hs => (simp only [aput, List.set_cons_succ, List.set_cons_zero]; rfl)))
      | ((with_reducible apply AOPS_beq); (case hx => rfl); (case hy => rfl); (case hs => (simp only [aput, List.set_cons_succ, List.set_cons_zero]; rfl)))
      | ((with_reducible apply S_conv_same); (case hx => rfl); (case hb => (first | (constructor <;> omega) | omega | (simp; done) | (simp; omega))); (case hs => (simp only [aput, List.set_cons_succ, List.set_cons_zero]; rfl)))
      | ((with_reducible apply S_conv_u8); (case hx => rfl); (case hs => (simp only [aput, List.set_cons_succ, List.set_cons_zero]; rfl)))
      | ((with_reducible apply S_conv_byte); (case hx => rfl); (case hs => (simp only [aput, List.set_cons_succ, List.set_cons_zero]; rfl)))
      | ((with_reducible apply AOPS_conv); (case hx => rfl); (case hs => (simp only [aput, List.set_cons_succ, List.set_cons_zero]; rfl)))
      | ((with_reducible apply S_lit); (case hp => rfl); (case ho => (first | rfl | (simp only [List.all_cons, List.all_nil, Bool.and_true, Bool.and_self, bvA_one, sl_one, nils_one, str_one, d1, d2, d3, d4]; done) | (simp [AV.one, d1, d2, d3, d4]; done))); (case hl => rfl); (case hzl => rfl); (case hb => decide); (case hs => (simp only [aput, List.set_cons_succ, List.set_cons_zero]; rfl)))
      | ((with_reducible apply T_append_full); (case hx => rfl); (case hy => rfl); (case hS => (first | exact SrcOk_bytes inferInstance (by first | rfl | assumption | (simp; done) | omega) | exact SrcOk_sl inferInstance (by simp) (by first | rfl | (simp only [List.all_cons, List.all_nil, bvA_one, Bool.and_self]; done) | simp [AV.one, bvA_ones]) | exact SrcOk_nils inferInstance | exact SrcOk_str inferInstance | exact SrcOk_isB inferInstance (by assumption))); (case hl => (first | rfl | (simp; done))); (case hb => (first | (constructor <;> omega) | omega | (simp; done) | (simp; omega))); (case hs => (simp only [aput, List.set_cons_succ, List.set_cons_zero]; rfl)))
      | ((with_reducible apply T_append_nils); (case hx => rfl); (case hy => rfl); (case hS => (first | exact SrcOk_bytes inferInstance (by first | rfl | assumption | (simp; done) | omega) | exact SrcOk_sl inferInstance (by simp) (by first | rfl | (simp only [List.all_cons, List.all_nil, bvA_one, Bool.and_self]; done) | simp [AV.one, bvA_ones]) | exact SrcOk_nils inferInstance | exact SrcOk_str inferInstance | exact SrcOk_isB inferInstance (by assumption))); (case hb => (first | (constructor <;> omega) | omega | (simp; done) | (simp; omega))); (case hs => (simp only [aput, List.set_cons_succ, List.set_cons_zero]; rfl)))
      | ((with_reducible apply U_append_tok); (case hx => rfl); (case hy => rfl); (case htk => (first | rfl | (simp [alook]; done))); (case hS => (first | exact SrcOk_bytes inferInstance (by first | rfl | assumption | (simp; done) | omega) | exact SrcOk_sl inferInstance (by simp) (by first | rfl | (simp only [List.all_cons, List.all_nil, bvA_one, Bool.and_self]; done) | simp [AV.one, bvA_ones]) | exact SrcOk_nils inferInstance | exact SrcOk_str inferInstance | exact SrcOk_isB inferInstance (by assumption))); (case hb => (first | (constructor <;> omega) | omega | (simp; done) | (simp; omega))); (case ht => (first | rfl | (simp only [asetF, if_true]; rfl))); (case hs => (simp only [aput, List.set_cons_succ, List.set_cons_zero]; rfl)))
      | ((with_reducible apply AOPS_string); (case hx => rfl); (case hb => rfl); (case hl => (first | rfl | with_reducible assumption | (simp; done) | (simp; omega) | omega)); (case hs => (simp only [aput, List.set_cons_succ, List.set_cons_zero]; rfl)))
      | ((with_reducible apply AOPS_string_nils); (case hx => rfl); (case hs => (simp only [aput, List.set_cons_succ, List.set_cons_zero]; rfl)))
      | ((with_reducible apply S_string_isB); (case hx => rfl); (case hb => assumption); (case hs => (simp only [aput, List.set_cons_succ, List.set_cons_zero]; rfl)))
      | ((with_reducible apply AOPS_bytes); (case hx => rfl); (case hs => (simp only [aput, List.set_cons_succ, List.set_cons_zero]; rfl)))
      | ((with_reducible apply S_call_val (g := 15)); (case hf => rfl); (case ha => rfl); (case h => exact anchor2_val); (case hc => exact (fun vs w => by kernel_rfl)); (case hs => (simp only [aput, List.set_cons_succ, List.set_cons_zero]; rfl)))
      | fail)
    refine ARet_ret rfl (.tmpO rfl .nil) ?_
    rfl
  have d4 : decide (zeros > 64) = false := by simp; omega
  obtain ⟨z, rfl⟩ := Int.eq_ofNat_of_zero_le (show 0 ≤ zeros by omega)
  have hk : IsB (.sl (.tok 0 (0 + key.length + z) 1) ([] ++ key.map bvA ++ (List.replicate z 0).map bvA) (0 + key.length + z)) (key ++ List.replicate z 0) := IsB.of (by simp) (by simp)
  have hkl : (key ++ List.replicate z 0).length ≤ 1000000 := by simp; omega
  have hml : ([m] : List (List UInt8)).flatten.length ≤ 1000000000 := by simp; omega
  by_cases h5 : key.length + z ≤ 64
  · have d5 : decide (((0 + key.length + z : Nat) : Int) ≤ 64) = true := by simp only [decide_eq_true_eq]; omega
    repeat' (first
      | with_reducible refine AWP_seq ?_
      | with_reducible refine AWP_region ?_
      | with_reducible refine AOPS_nil ?_
      | with_reducible refine AThen_normal ?_
      | with_reducible refine AThen_ret ?_
      | with_reducible refine AThen_exit ?_
      | with_reducible refine ARound_ret ?_
      | with_reducible refine ARound_exit ?_
      | with_reducible refine AWP_skip ?_
      | with_reducible refine AWP_ret ?_
      | with_reducible refine AWP_exit ?_
      | ((with_reducible apply AWP_cond_t); (case hc => rfl); (case hb => (first | with_reducible assumption | with_reducible rfl | (simp only [d1, d2, d3, d4, d5]; done) | (simp; done) | (simp; omega))))
      | ((with_reducible apply AWP_cond_f); (case hc => rfl); (case hb => (first | with_reducible assumption | with_reducible rfl | (simp only [d1, d2, d3, d4, d5]; done) | (simp; done) | (simp; omega))))
      | ((with_reducible apply AOPS_guard_yes); (case hy => rfl); (case hb => (first | with_reducible assumption | with_reducible rfl | (simp only [d1, d2, d3, d4, d5]; done) | (simp; done) | (simp; omega))))
      | ((with_reducible apply AOPS_guard_no); (case hy => rfl); (case hb => (first | with_reducible assumption | with_reducible rfl | (simp only [d1, d2, d3, d4, d5]; done) | (simp; done) | (simp; omega))); (case hs => (simp only [aput, List.set_cons_succ, List.set_cons_zero]; rfl)))
      | ((with_reducible apply AOPS_guard_und); (case hy => rfl); (case hs => (simp only [aput, List.set_cons_succ, List.set_cons_zero]; rfl)))
      | ((with_reducible apply S_move); (case hx => rfl); (case hs => (simp only [aput, List.set_cons_succ, List.set_cons_zero]; rfl)))
      | ((with_reducible apply S_assign); (case hx => rfl); (case hs => (simp only [aput, List.set_cons_succ, List.set_cons_zero]; rfl)))
      | ((with_reducible apply S_pick_t); (case hc => rfl); (case hb => (first | with_reducible assumption | with_reducible rfl | (simp only [d1, d2, d3, d4, d5]; done) | (simp; done) | (simp; omega))); (case hx => rfl); (case hs => (simp only [aput, List.set_cons_succ, List.set_cons_zero]; rfl)))
      | ((with_reducible apply S_pick_f); (case hc => rfl); (case hb => (first | with_reducible assumption | with_reducible rfl | (simp only [d1, d2, d3, d4, d5]; done) | (simp; done) | (simp; omega))); (case hx => rfl); (case hs => (simp only [aput, List.set_cons_succ, List.set_cons_zero]; rfl)))
      | ((with_reducible apply AOPS_not); (case hx => rfl); (case hs => (simp only [aput, List.set_cons_succ, List.set_cons_zero]; rfl)))
      | ((with_reducible apply AOPS_len_sl); (case hx => rfl); (case hs => (simp only [aput, List.set_cons_succ, List.set_cons_zero]; rfl)))
      | ((with_reducible apply AOPS_len_nils); (case hx => rfl); (case hs => (simp only [aput, List.set_cons_succ, List.set_cons_zero]; rfl)))
      | ((with_reducible apply AOPS_len_row); (case hx => rfl); (case hs => (simp only [aput, List.set_cons_succ, List.set_cons_zero]; rfl)))
      | ((with_reducible apply AOPS_len_str); (case hx => rfl); (case hs => (simp only [aput, List.set_cons_succ, List.set_cons_zero]; rfl)))
      | ((with_reducible apply S_len_isB); (case hx => rfl); (case hb => assumption); (case hs => (simp only [aput, List.set_cons_succ, List.set_cons_zero]; rfl)))
      | ((with_reducible apply S_eq8); (case hx => rfl); (case hy => rfl); (case hs => (simp only [aput, List.set_cons_succ, List.set_cons_zero]; rfl)))
      | ((with_reducible apply S_bin); (case hx => rfl); (case hy => rfl); (case ho => rfl); (case hs => (simp only [aput, List.set_cons_succ, List.set_cons_zero]; rfl)))
      | ((with_reducible apply AOPS_str); (case hx => rfl); (case hy => rfl); (case ho => rfl); (case hs => (simp only [aput, List.set_cons_succ, List.set_cons_zero]; rfl)))
      | ((with_reducible apply AOPS_beq); (case hx => rfl); (case hy => rfl); (case hs => (simp only [aput, List.set_cons_succ, List.set_cons_zero]; rfl)))
      | ((with_reducible apply S_conv_same); (case hx => rfl); (case hb => (first | (constructor <;> omega) | omega | (simp; done) | (simp; omega))); (case hs => (simp only [aput, List.set_cons_succ, List.set_cons_zero]; rfl)))
      | ((with_reducible apply S_conv_u8); (case hx => rfl); (case hs => (simp only [aput, List.set_cons_succ, List.set_cons_zero]; rfl)))
      | ((with_reducible apply S_conv_byte); (case hx => rfl); (case hs => (simp only [aput, List.set_cons_succ, List.set_cons_zero]; rfl)))
      | ((with_reducible apply AOPS_conv); (case hx => rfl); (case hs => (simp only [aput, List.set_cons_succ, List.set_cons_zero]; rfl)))
      | ((with_reducible apply S_lit); (case hp => rfl); (case ho => (first | rfl | (simp only [List.all_cons, List.all_nil, Bool.and_true, Bool.and_self, bvA_one, sl_one, nils_one, str_one, d1, d2, d3, d4, d5]; done) | (simp [AV.one, d1, d2, d3, d4, d5]; done))); (case hl => rfl); (case hzl => rfl); (case hb => decide); (case hs => (simp only [aput, List.set_cons_succ, List.set_cons_zero]; rfl)))
      | ((with_reducible apply T_append_full); (case hx => rfl); (case hy => rfl); (case hS => (first | exact SrcOk_bytes inferInstance (by first | rfl | assumption | (simp; done) | omega) | exact SrcOk_sl inferInstance (by simp) (by first | rfl | (simp only [List.all_cons, List.all_nil, bvA_one, Bool.and_self]; done) | simp [AV.one, bvA_ones]) | exact SrcOk_nils inferInstance | exact SrcOk_str inferInstance | exact SrcOk_isB inferInstance (by assumption))); (case hl => (first | rfl | (simp; done))); (case hb => (first | (constructor <;> omega) | omega | (simp; done) | (simp; omega))); (case hs => (simp only [aput, List.set_cons_succ, List.set_cons_zero]; rfl)))
      | ((with_reducible apply T_append_nils); (case hx => rfl); (case hy => rfl); (case hS => (first | exact SrcOk_bytes inferInstance (by first | rfl | assumption | (simp; done) | omega) | exact SrcOk_sl inferInstance (by simp) (by first | rfl | (simp only [List.all_cons, List.all_nil, bvA_one, Bool.and_self]; done) | simp [AV.one, bvA_ones]) | exact SrcOk_nils inferInstance | exact SrcOk_str inferInstance | exact SrcOk_isB inferInstance (by assumption))); (case hb => (first | (constructor <;> omega) | omega | (simp; done) | (simp; omega))); (case hs => (simp only [aput, List.set_cons_succ, List.set_cons_zero]; rfl)))
      | ((with_reducible apply U_append_tok); (case hx => rfl); (case hy => rfl); (case htk => (first | rfl | (simp [alook]; done))); (case hS => (first | exact SrcOk_bytes inferInstance (by first | rfl | assumption | (simp; done) | omega) | exact SrcOk_sl inferInstance (by simp) (by first | rfl | (simp only [List.all_cons, List.all_nil, bvA_one, Bool.and_self]; done) | simp [AV.one, bvA_ones]) | exact SrcOk_nils inferInstance | exact SrcOk_str inferInstance | exact SrcOk_isB inferInstance (by assumption))); (case hb => (first | (constructor <;> omega) | omega | (simp; done) | (simp; omega))); (case ht => (first | rfl | (simp only [asetF, if_true]; rfl))); (case hs => (simp only [aput, List.set_cons_succ, List.set_cons_zero]; rfl)))
      | ((with_reducible apply AOPS_string); (case hx => rfl); (case hb => rfl); (case hl => (first | rfl | with_reducible assumption | (simp; done) | (simp; omega) | omega)); (case hs => (simp only [aput, List.set_cons_succ, List.set_cons_zero]; rfl)))
      | ((with_reducible apply AOPS_string_nils); (case hx => rfl); (case hs => (simp only [aput, List.set_cons_succ, List.set_cons_zero]; rfl)))
      | ((with_reducible apply S_string_isB); (case hx => rfl); (case hb => assumption); (case hs => (simp only [aput, List.set_cons_succ, List.set_cons_zero]; rfl)))
      | ((with_reducible apply AOPS_bytes); (case hx => rfl); (case hs => (simp only [aput, List.set_cons_succ, List.set_cons_zero]; rfl)))
      | ((with_reducible apply S_call_val (g := 15)); (case hf => rfl); (case ha => rfl); (case h => exact anchor2_val); (case hc => exact (fun vs w => by kernel_rfl)); (case hs => (simp only [aput, List.set_cons_succ, List.set_cons_zero]; rfl)))
      | ((with_reducible apply S_append_zeros 9 z); (case hx => rfl); (case hy => rfl); (case TS => infer_instance); (case htk => rfl); (case hi => rfl); (case hb => omega); (case ht => rfl); (case hs => (simp only [aput, List.set_cons_succ, List.set_cons_zero]; rfl)))
      | ((with_reducible apply S_call_val (g := 16)); (case hf => rfl); (case ha => rfl); (case h => exact (code_val (key := key ++ List.replicate z 0) (ls := [m]) hk (.cons (.mk_ _ _) .nil) rfl hkl hml)); (case hc => exact (fun vs w => by kernel_rfl)); (case hs => (simp only [aput, List.set_cons_succ, List.set_cons_zero]; rfl)))
      | ((with_reducible apply S_call_val (g := 16)); (case hf => rfl); (case ha => rfl); (case h => exact (code_val (key := key) (ls := [m]) (.mk_ _ _) (.cons (.mk_ _ _) .nil) rfl (by omega) hml)); (case hc => exact (fun vs w => by kernel_rfl)); (case hs => (simp only [aput, List.set_cons_succ, List.set_cons_zero]; rfl)))
      | with_reducible refine ATK_nil ?_
      | with_reducible refine AAnyQ_normal ?_
      | ((with_reducible apply ATK_guard_yes); (case hy => rfl); (case hb => (first | with_reducible assumption | with_reducible rfl | (simp only [d1, d2, d3, d4, d5]; done) | (simp; done) | (simp; omega))))
      | ((with_reducible apply ATK_guard_no); (case hy => rfl); (case hb => (first | with_reducible assumption | with_reducible rfl | (simp only [d1, d2, d3, d4, d5]; done) | (simp; done) | (simp; omega))); (case hs => (simp only [aput, List.set_cons_succ, List.set_cons_zero]; rfl)))
      | ((with_reducible apply ATK_guard_und); (case hy => rfl); (case hs => (simp only [aput, List.set_cons_succ, List.set_cons_zero]; rfl)))
      | ((with_reducible apply TS_move); (case hx => rfl); (case hs => (simp only [aput, List.set_cons_succ, List.set_cons_zero]; rfl)))
      | ((with_reducible apply TS_assign); (case hx => rfl); (case hs => (simp only [aput, List.set_cons_succ, List.set_cons_zero]; rfl)))
      | ((with_reducible apply TS_eq8); (case hx => rfl); (case hy => rfl); (case hs => (simp only [aput, List.set_cons_succ, List.set_cons_zero]; rfl)))
      | ((with_reducible apply TS_bin); (case hx => rfl); (case hy => rfl); (case ho => rfl); (case hs => (simp only [aput, List.set_cons_succ, List.set_cons_zero]; rfl)))
      | ((with_reducible apply ATK_str); (case hx => rfl); (case hy => rfl); (case ho => rfl); (case hs => (simp only [aput, List.set_cons_succ, List.set_cons_zero]; rfl)))
      | ((with_reducible apply ATK_beq); (case hx => rfl); (case hy => rfl); (case hs => (simp only [aput, List.set_cons_succ, List.set_cons_zero]; rfl)))
      | ((with_reducible apply TS_conv_same); (case hx => rfl); (case hb => (first | (constructor <;> omega) | omega | (simp; done) | (simp; omega))); (case hs => (simp only [aput, List.set_cons_succ, List.set_cons_zero]; rfl)))
      | ((with_reducible apply TS_conv_u8); (case hx => rfl); (case hs => (simp only [aput, List.set_cons_succ, List.set_cons_zero]; rfl)))
      | ((with_reducible apply TS_conv_byte); (case hx => rfl); (case hs => (simp only [aput, List.set_cons_succ, List.set_cons_zero]; rfl)))
      | ((with_reducible apply ATK_conv); (case hx => rfl); (case hs => (simp only [aput, List.set_cons_succ, List.set_cons_zero]; rfl)))
      | ((with_reducible apply ATK_string); (case hx => rfl); (case hb => rfl); (case hl => (first | rfl | with_reducible assumption | (simp; done) | (simp; omega) | omega)); (case hs => (simp only [aput, List.set_cons_succ, List.set_cons_zero]; rfl)))
      | ((with_reducible apply ATK_string_nils); (case hx => rfl); (case hs => (simp only [aput, List.set_cons_succ, List.set_cons_zero]; rfl)))
      | ((with_reducible apply TS_string_isB); (case hx => rfl); (case hb => assumption); (case hs => (simp only [aput, List.set_cons_succ, List.set_cons_zero]; rfl)))
      | ((with_reducible apply AWP_draw (n := 11)); (case hm => kernel_rfl); (case hn => rfl))
      | ((with_reducible apply AWP_draw (n := 12)); (case hm => kernel_rfl); (case hn => rfl))
      | ((with_reducible apply AANY_done); (case hr => decide +kernel))
      | ((with_reducible apply AANY_take (i := 0)); (case hn => rfl); (case hr => decide +kernel); (case ho => rfl); (case hs => kernel_rfl); (case hf => decide +kernel))
      | ((with_reducible apply AANY_take (i := 1)); (case hn => rfl); (case hr => decide +kernel); (case ho => rfl); (case hs => kernel_rfl); (case hf => decide +kernel))
      | ((with_reducible apply AANY_take (i := 4)); (case hn => rfl); (case hr => decide +kernel); (case ho => rfl); (case hs => kernel_rfl); (case hf => decide +kernel))
      | ((with_reducible apply AANY_take (i := 5)); (case hn => rfl); (case hr => decide +kernel); (case ho => rfl); (case hs => kernel_rfl); (case hf => decide +kernel))
      | ((with_reducible apply AANY_take (i := 6)); (case hn => rfl); (case hr => decide +kernel); (case ho => rfl); (case hs => kernel_rfl); (case hf => decide +kernel))
      | ((with_reducible apply AANY_take (i := 8)); (case hn => rfl); (case hr => decide +kernel); (case ho => rfl); (case hs => kernel_rfl); (case hf => decide +kernel); (first | (((with_reducible apply ATK_guard_yes); (case hy => rfl); (case hb => (first | with_reducible assumption | with_reducible rfl | (simp only [d1, d2, d3, d4, d5]; done) | (simp; done) | (simp; omega)))); (first | ((with_reducible apply TS_move); (case hx => rfl); (case hs => (simp only [aput, List.set_cons_succ, List.set_cons_zero]; rfl))) | ((with_reducible apply TS_assign); (case hx => rfl); (case hs => (simp only [aput, List.set_cons_succ, List.set_cons_zero]; rfl))) | ((with_reducible apply TS_eq8); (case hx => rfl); (case hy => rfl); (case hs => (simp only [aput, List.set_cons_succ, List.set_cons_zero]; rfl))) | ((with_reducible apply TS_bin); (case hx => rfl); (case hy => rfl); (case ho => rfl); (case hs => (simp only [aput, List.set_cons_succ, List.set_cons_zero]; rfl))) | ((with_reducible apply ATK_str); (case hx => rfl); (case hy => rfl); (case ho => rfl); (case hs => (simp only [aput, List.set_cons_succ, List.set_cons_zero]; rfl))) | ((with_reducible apply ATK_beq); (case hx => rfl); (case hy => rfl); (case hs => (simp only [aput, List.set_cons_succ, List.set_cons_zero]; rfl))) | ((with_reducible apply TS_conv_same); (case hx => rfl); (case hb => (first | (constructor <;> omega) | omega | (simp; done) | (simp; omega))); (case hs => (simp only [aput, List.set_cons_succ, List.set_cons_zero]; rfl))) | ((with_reducible apply TS_conv_u8); (case hx => rfl); (case hs => (simp only [aput, List.set_cons_succ, List.set_cons_zero]; rfl))) | ((with_reducible apply TS_conv_byte); (case hx => rfl); (case hs => (simp only [aput, List.set_cons_succ, List.set_cons_zero]; rfl))) | ((with_reducible apply ATK_conv); (case hx => rfl); (case hs => (simp only [aput, List.set_cons_succ, List.set_cons_zero]; rfl))) | ((with_reducible apply ATK_string); (case hx => rfl); (case hb => rfl); (case hl => (first | rfl | with_reducible assumption | (simp; done) | (simp; omega) | omega)); (case hs => (simp only [aput, List.set_cons_succ, List.set_cons_zero]; rfl))) | ((with_reducible apply ATK_string_nils); (case hx => rfl); (case hs => (simp only [aput, List.set_cons_succ, List.set_cons_zero]; rfl))) | ((with_reducible apply TS_string_isB); (case hx => rfl); (case hb => assumption); (case hs => (simp only [aput, List.set_cons_succ, List.set_cons_zero]; rfl))))) | ((with_reducible apply ATK_guard_no); (case hy => rfl); (case hb => (first | with_reducible assumption | with_reducible rfl | (simp only [d1, d2, d3, d4, d5]; done) | (simp; done) | (simp; omega))); (case hs => (simp only [aput, List.set_cons_succ, List.set_cons_zero]; rfl))) | ((with_reducible apply ATK_guard_und); (case hy => rfl); (case hs => (simp only [aput, List.set_cons_succ, List.set_cons_zero]; rfl))) | ((with_reducible apply TS_move); (case hx => rfl); (case hs => (simp only [aput, List.set_cons_succ, List.set_cons_zero]; rfl))) | ((with_reducible apply TS_assign); (case hx => rfl); (case hs => (simp only [aput, List.set_cons_succ, List.set_cons_zero]; rfl))) | ((with_reducible apply TS_eq8); (case hx => rfl); (case hy => rfl); (case hs => (simp only [aput, List.set_cons_succ, List.set_cons_zero]; rfl))) | ((with_reducible apply TS_bin); (case hx => rfl); (case hy => rfl); (case ho => rfl); (case hs => (simp only [aput, List.set_cons_succ, List.set_cons_zero]; rfl))) | ((with_reducible apply ATK_str); (case hx => rfl); (case hy => rfl); (case ho => rfl); (case hs => (simp only [aput, List.set_cons_succ, List.set_cons_zero]; rfl))) | ((with_reducible apply ATK_beq); (case hx => rfl); (case hy => rfl); (case hs => (simp only [aput, List.set_cons_succ, List.set_cons_zero]; rfl))) | ((with_reducible apply TS_conv_same); (case hx => rfl); (case hb => (first | (constructor <;> omega) | omega | (simp; done) | (simp; omega))); (case hs => (simp only [aput, List.set_cons_succ, List.set_cons_zero]; rfl))) | ((with_reducible apply TS_conv_u8); (case hx => rfl); (case hs => (simp only [aput, List.set_cons_succ, List.set_cons_zero]; rfl))) | ((with_reducible apply TS_conv_byte); (case hx => rfl); (case hs => (simp only [aput, List.set_cons_succ, List.set_cons_zero]; rfl))) | ((with_reducible apply ATK_conv); (case hx => rfl); (case hs => (simp only [aput, List.set_cons_succ, List.set_cons_zero]; rfl))) | ((with_reducible apply ATK_string); (case hx => rfl); (case hb => rfl); (case hl => (first | rfl | with_reducible assumption | (simp; done) | (simp; omega) | omega)); (case hs => (simp only [aput, List.set_cons_succ, List.set_cons_zero]; rfl))) | ((with_reducible apply ATK_string_nils); (case hx => rfl); (case hs => (simp only [aput, List.set_cons_succ, List.set_cons_zero]; rfl))) | ((with_reducible apply TS_string_isB); (case hx => rfl); (case hb => assumption); (case hs => (simp only [aput, List.set_cons_succ, List.set_cons_zero]; rfl)))))
      | ((with_reducible apply AANY_take (i := 9)); (case hn => rfl); (case hr => decide +kernel); (case ho => rfl); (case hs => kernel_rfl); (case hf => decide +kernel))
      | ((with_reducible apply AANY_take (i := 10)); (case hn => rfl); (case hr => decide +kernel); (case ho => rfl); (case hs => kernel_rfl); (case hf => decide +kernel))
      | ((with_reducible apply AANY_take (i := 11)); (case hn => rfl); (case hr => decide +kernel); (case ho => rfl); (case hs => kernel_rfl); (case hf => decide +kernel))
      | ((with_reducible apply AANY_step [2, 3, 7, 8]); (case hn => rfl); (case hr => decide +kernel); (case hne => decide +kernel))
      | with_reducible exact ACands_nil
      | with_reducible refine ACands_cons ?_ ?_
      | ((with_reducible refine ACand_no ?_); decide +kernel)
      | ((with_reducible apply ACand_yes); (case ho => rfl))
      | fail)
    all_goals
      refine ARet_ret rfl (.tmpO rfl .nil) ?_
      simp [aone, macB_zeros _ _ z h5]
  · have d5 : decide (((0 + key.length + z : Nat) : Int) ≤ 64) = false := by simp only [decide_eq_false_iff_not]; omega
    repeat' (first
      | with_reducible refine AWP_seq ?_
      | with_reducible refine AWP_region ?_
      | with_reducible refine AOPS_nil ?_
      | with_reducible refine AThen_normal ?_
      | with_reducible refine AThen_ret ?_
      | with_reducible refine AThen_exit ?_
      | with_reducible refine ARound_ret ?_
      | with_reducible refine ARound_exit ?_
      | with_reducible refine AWP_skip ?_
      | with_reducible refine AWP_ret ?_
      | with_reducible refine AWP_exit ?_
      | ((with_reducible apply AWP_cond_t); (case hc => rfl); (case hb => (first | with_reducible assumption | with_reducible rfl | (simp only [d1, d2, d3, d4, d5]; done) | (simp; done) | (simp; omega))))
      | ((with_reducible apply AWP_cond_f); (case hc => rfl); (case hb => (first | with_reducible assumption | with_reducible rfl | (simp only [d1, d2, d3, d4, d5]; done) | (simp; done) | (simp; omega))))
      | ((with_reducible apply AOPS_guard_yes); (case hy => rfl); (case hb => (first | with_reducible assumption | with_reducible rfl | (simp only [d1, d2, d3, d4, d5]; done) | (simp; done) | (simp; omega))))
      | ((with_reducible apply AOPS_guard_no); (case hy => rfl); (case hb => (first | with_reducible assumption | with_reducible rfl | (simp only [d1, d2, d3, d4, d5]; done) | (simp; done) | (simp; omega))); (case hs => (simp only [aput, List.set_cons_succ, List.set_cons_zero]; rfl)))
      | ((with_reducible apply AOPS_guard_und); (case hy => rfl); (case hs => (simp only [aput, List.set_cons_succ, List.set_cons_zero]; rfl)))
      | ((with_reducible apply S_move); (case hx => rfl); (case hs => (simp only [aput, List.set_cons_succ, List.set_cons_zero]; rfl)))
      | ((with_reducible apply S_assign); (case hx => rfl); (case hs => (simp only [aput, List.set_cons_succ, List.set_cons_zero]; rfl)))
      | ((with_reducible apply S_pick_t); (case hc => rfl); (case hb => (first | with_reducible assumption | with_reducible rfl | (simp only [d1, d2, d3, d4, d5]; done) | (simp; done) | (simp; omega))); (case hx => rfl); (case hs => (simp only [aput, List.set_cons_succ, List.set_cons_zero]; rfl)))
      | ((with_reducible apply S_pick_f); (case hc => rfl); (case hb => (first | with_reducible assumption | with_reducible rfl | (simp only [d1, d2, d3, d4, d5]; done) | (simp; done) | (simp; omega))); (case hx => rfl); (case hs => (simp only [aput, List.set_cons_succ, List.set_cons_zero]; rfl)))
      | ((with_reducible apply AOPS_not); (case hx => rfl); (case hs => (simp only [aput, List.set_cons_succ, List.set_cons_zero]; rfl)))
      | ((with_reducible apply AOPS_len_sl); (case hx => rfl); (case hs => (simp only [aput, List.set_cons_succ, List.set_cons_zero]; rfl)))
      | ((with_reducible apply AOPS_len_nils); (case hx => rfl); (case hs => (simp only [aput, List.set_cons_succ, List.set_cons_zero]; rfl)))
      | ((with_reducible apply AOPS_len_row); (case hx => rfl); (case hs => (simp only [aput, List.set_cons_succ, List.set_cons_zero]; rfl)))
      | ((with_reducible apply AOPS_len_str); (case hx => rfl); (case hs => (simp only [aput, List.set_cons_succ, List.set_cons_zero]; rfl)))
      | ((with_reducible apply S_len_isB); (case hx => rfl); (case hb => assumption); (case hs => (simp only [aput, List.set_cons_succ, List.set_cons_zero]; rfl)))
      | ((with_reducible apply S_eq8); (case hx => rfl); (case hy => rfl); (case hs => (simp only [aput, List.set_cons_succ, List.set_cons_zero]; rfl)))
      | ((with_reducible apply S_bin); (case hx => rfl); (case hy => rfl); (case ho => rfl); (case hs => (simp only [aput, List.set_cons_succ, List.set_cons_zero]; rfl)))
      | ((with_reducible apply AOPS_str); (case hx => rfl); (case hy => rfl); (case ho => rfl); (case hs => (simp only [aput, List.set_cons_succ, List.set_cons_zero]; rfl)))
      | ((with_reducible apply AOPS_beq); (case hx => rfl); (case hy => rfl); (case hs => (simp only [aput, List.set_cons_succ, List.set_cons_zero]; rfl)))
      | ((with_reducible apply S_conv_same); (case hx => rfl); (case hb => (first | (constructor <;> omega) | omega | (simp; done) | (simp; omega))); (case hs => (simp only [aput, List.set_cons_succ, List.set_cons_zero]; rfl)))
      | ((with_reducible apply S_conv_u8); (case hx => rfl); (case hs => (simp only [aput, List.set_cons_succ, List.set_cons_zero]; rfl)))
      | ((with_reducible apply S_conv_byte); (case hx => rfl); (case hs => (simp only [aput, List.set_cons_succ, List.set_cons_zero]; rfl)))
      | ((with_reducible apply AOPS_conv); (case hx => rfl); (case hs => (simp only [aput, List.set_cons_succ, List.set_cons_zero]; rfl)))
      | ((with_reducible apply S_lit); (case hp => rfl); (case ho => (first | rfl | (simp only [List.all_cons, List.all_nil, Bool.and_true, Bool.and_self, bvA_one, sl_one, nils_one, str_one, d1, d2, d3, d4, d5]; done) | (simp [AV.one, d1, d2, d3, d4, d5]; done))); (case hl => rfl); (case hzl => rfl); (case hb => decide); (case hs => (simp only [aput, List.set_cons_succ, List.set_cons_zero]; rfl)))
      | ((with_reducible apply T_append_full); (case hx => rfl); (case hy => rfl); (case hS => (first | exact SrcOk_bytes inferInstance (by first | rfl | assumption | (simp; done) | omega) | exact SrcOk_sl inferInstance (by simp) (by first | rfl | (simp only [List.all_cons, List.all_nil, bvA_one, Bool.and_self]; done) | simp [AV.one, bvA_ones]) | exact SrcOk_nils inferInstance | exact SrcOk_str inferInstance | exact SrcOk_isB inferInstance (by assumption))); (case hl => (first | rfl | (simp; done))); (case hb => (first | (constructor <;> omega) | omega | (simp; done) | (simp; omega))); (case hs => (simp only [aput, List.set_cons_succ, List.set_cons_zero]; rfl)))
      | ((with_reducible apply T_append_nils); (case hx => rfl); (case hy => rfl); (case hS => (first | exact SrcOk_bytes inferInstance (by first | rfl | assumption | (simp; done) | omega) | exact SrcOk_sl inferInstance (by simp) (by first | rfl | (simp only [List.all_cons, List.all_nil, bvA_one, Bool.and_self]; done) | simp [AV.one, bvA_ones]) | exact SrcOk_nils inferInstance | exact SrcOk_str inferInstance | exact SrcOk_isB inferInstance (by assumption))); (case hb => (first | (constructor <;> omega) | omega | (simp; done) | (simp; omega))); (case hs => (simp only [aput, List.set_cons_succ, List.set_cons_zero]; rfl)))
      | ((with_reducible apply U_append_tok); (case hx => rfl); (case hy => rfl); (case htk => (first | rfl | (simp [alook]; done))); (case hS => (first | exact SrcOk_bytes inferInstance (by first | rfl | assumption | (simp; done) | omega) | exact SrcOk_sl inferInstance (by simp) (by first | rfl | (simp only [List.all_cons, List.all_nil, bvA_one, Bool.and_self]; done) | simp [AV.one, bvA_ones]) | exact SrcOk_nils inferInstance | exact SrcOk_str inferInstance | exact SrcOk_isB inferInstance (by assumption))); (case hb => (first | (constructor <;> omega) | omega | (simp; done) | (simp; omega))); (case ht => (first | rfl | (simp only [asetF, if_true]; rfl))); (case hs => (simp only [aput, List.set_cons_succ, List.set_cons_zero]; rfl)))
      | ((with_reducible apply AOPS_string); (case hx => rfl); (case hb => rfl); (case hl => (first | rfl | with_reducible assumption | (simp; done) | (simp; omega) | omega)); (case hs => (simp only [aput, List.set_cons_succ, List.set_cons_zero]; rfl)))
      | ((with_reducible apply AOPS_string_nils); (case hx => rfl); (case hs => (simp only [aput, List.set_cons_succ, List.set_cons_zero]; rfl)))
      | ((with_reducible apply S_string_isB); (case hx => rfl); (case hb => assumption); (case hs => (simp only [aput, List.set_cons_succ, List.set_cons_zero]; rfl)))
      | ((with_reducible apply AOPS_bytes); (case hx => rfl); (case hs => (simp only [aput, List.set_cons_succ, List.set_cons_zero]; rfl)))
      | ((with_reducible apply S_call_val (g := 15)); (case hf => rfl); (case ha => rfl); (case h => exact anchor2_val); (case hc => exact (fun vs w => by kernel_rfl)); (case hs => (simp only [aput, List.set_cons_succ, List.set_cons_zero]; rfl)))
      | ((with_reducible apply S_append_zeros 9 z); (case hx => rfl); (case hy => rfl); (case TS => infer_instance); (case htk => rfl); (case hi => rfl); (case hb => omega); (case ht => rfl); (case hs => (simp only [aput, List.set_cons_succ, List.set_cons_zero]; rfl)))
      | ((with_reducible apply S_call_val (g := 16)); (case hf => rfl); (case ha => rfl); (case h => exact (code_val (key := key ++ List.replicate z 0) (ls := [m]) hk (.cons (.mk_ _ _) .nil) rfl hkl hml)); (case hc => exact (fun vs w => by kernel_rfl)); (case hs => (simp only [aput, List.set_cons_succ, List.set_cons_zero]; rfl)))
      | ((with_reducible apply S_call_val (g := 17)); (case hf => rfl); (case ha => rfl); (case h => exact (rcode_val (key := key ++ List.replicate z 0) (msg := m) hk (.mk_ _ _) hkl (by omega))); (case hc => exact (fun vs w => by kernel_rfl)); (case hs => (simp only [aput, List.set_cons_succ, List.set_cons_zero]; rfl)))
      | with_reducible refine ATK_nil ?_
      | with_reducible refine AAnyQ_normal ?_
      | ((with_reducible apply ATK_guard_yes); (case hy => rfl); (case hb => (first | with_reducible assumption | with_reducible rfl | (simp only [d1, d2, d3, d4, d5]; done) | (simp; done) | (simp; omega))))
      | ((with_reducible apply ATK_guard_no); (case hy => rfl); (case hb => (first | with_reducible assumption | with_reducible rfl | (simp only [d1, d2, d3, d4, d5]; done) | (simp; done) | (simp; omega))); (case hs => (simp only [aput, List.set_cons_succ, List.set_cons_zero]; rfl)))
      | ((with_reducible apply ATK_guard_und); (case hy => rfl); (case hs => (simp only [aput, List.set_cons_succ, List.set_cons_zero]; rfl)))
      | ((with_reducible apply TS_move); (case hx => rfl); (case hs => (simp only [aput, List.set_cons_succ, List.set_cons_zero]; rfl)))
      | ((with_reducible apply TS_assign); (case hx => rfl); (case hs => (simp only [aput, List.set_cons_succ, List.set_cons_zero]; rfl)))
      | ((with_reducible apply TS_eq8); (case hx => rfl); (case hy => rfl); (case hs => (simp only [aput, List.set_cons_succ, List.set_cons_zero]; rfl)))
      | ((with_reducible apply TS_bin); (case hx => rfl); (case hy => rfl); (case ho => rfl); (case hs => (simp only [aput, List.set_cons_succ, List.set_cons_zero]; rfl)))
      | ((with_reducible apply ATK_str); (case hx => rfl); (case hy => rfl); (case ho => rfl); (case hs => (simp only [aput, List.set_cons_succ, List.set_cons_zero]; rfl)))
      | ((with_reducible apply ATK_beq); (case hx => rfl); (case hy => rfl); (case hs => (simp only [aput, List.set_cons_succ, List.set_cons_zero]; rfl)))
      | ((with_reducible apply TS_conv_same); (case hx => rfl); (case hb => (first | (constructor <;> omega) | omega | (simp; done) | (simp; omega))); (case hs => (simp only [aput, List.set_cons_succ, List.set_cons_zero]; rfl)))
      | ((with_reducible apply TS_conv_u8); (case hx => rfl); (case hs => (simp only [aput, List.set_cons_succ, List.set_cons_zero]; rfl)))
      | ((with_reducible apply TS_conv_byte); (case hx => rfl); (case hs => (simp only [aput, List.set_cons_succ, List.set_cons_zero]; rfl)))
      | ((with_reducible apply ATK_conv); (case hx => rfl); (case hs => (simp only [aput, List.set_cons_succ, List.set_cons_zero]; rfl)))
      | ((with_reducible apply ATK_string); (case hx => rfl); (case hb => rfl); (case hl => (first | rfl | with_reducible assumption | (simp; done) | (simp; omega) | omega)); (case hs => (simp only [aput, List.set_cons_succ, List.set_cons_zero]; rfl)))
      | ((with_reducible apply ATK_string_nils); (case hx => rfl); (case hs => (simp only [aput, List.set_cons_succ, List.set_cons_zero]; rfl)))
      | ((with_reducible apply TS_string_isB); (case hx => rfl); (case hb => assumption); (case hs => (simp only [aput, List.set_cons_succ, List.set_cons_zero]; rfl)))
      | ((with_reducible apply AWP_draw (n := 11)); (case hm => kernel_rfl); (case hn => rfl))
      | ((with_reducible apply AWP_draw (n := 12)); (case hm => kernel_rfl); (case hn => rfl))
      | ((with_reducible apply AANY_done); (case hr => decide +kernel))
      | ((with_reducible apply AANY_take (i := 0)); (case hn => rfl); (case hr => decide +kernel); (case ho => rfl); (case hs => kernel_rfl); (case hf => decide +kernel))
      | ((with_reducible apply AANY_take (i := 1)); (case hn => rfl); (case hr => decide +kernel); (case ho => rfl); (case hs => kernel_rfl); (case hf => decide +kernel))
      | ((with_reducible apply AANY_take (i := 4)); (case hn => rfl); (case hr => decide +kernel); (case ho => rfl); (case hs => kernel_rfl); (case hf => decide +kernel))
      | ((with_reducible apply AANY_take (i := 5)); (case hn => rfl); (case hr => decide +kernel); (case ho => rfl); (case hs => kernel_rfl); (case hf => decide +kernel))
      | ((with_reducible apply AANY_take (i := 6)); (case hn => rfl); (case hr => decide +kernel); (case ho => rfl); (case hs => kernel_rfl); (case hf => decide +kernel))
      | ((with_reducible apply AANY_take (i := 8)); (case hn => rfl); (case hr => decide +kernel); (case ho => rfl); (case hs => kernel_rfl); (case hf => decide +kernel); (first | (((with_reducible apply ATK_guard_yes); (case hy => rfl); (case hb => (first | with_reducible assumption | with_reducible rfl | (simp only [d1, d2, d3, d4, d5]; done) | (simp; done) | (simp; omega)))); (first | ((with_reducible apply TS_move); (case hx => rfl); (case hs => (simp only [aput, List.set_cons_succ, List.set_cons_zero]; rfl))) | ((with_reducible apply TS_assign); (case hx => rfl); (case hs => (simp only [aput, List.set_cons_succ, List.set_cons_zero]; rfl))) | ((with_reducible apply TS_eq8); (case hx => rfl); (case hy => rfl); (case hs => (simp only [aput, List.set_cons_succ, List.set_cons_zero]; rfl))) | ((with_reducible apply TS_bin); (case hx => rfl); (case hy => rfl); (case ho => rfl); (case hs => (simp only [aput, List.set_cons_succ, List.set_cons_zero]; rfl))) | ((with_reducible apply ATK_str); (case hx => rfl); (case hy => rfl); (case ho => rfl); (case hs => (simp only [aput, List.set_cons_succ, List.set_cons_zero]; rfl))) | ((with_reducible apply ATK_beq); (case hx => rfl); (case hy => rfl); (case hs => (simp only [aput, List.set_cons_succ, List.set_cons_zero]; rfl))) | ((with_reducible apply TS_conv_same); (case hx => rfl); (case hb => (first | (constructor <;> omega) | omega | (simp; done) | (simp; omega))); (case hs => (simp only [aput, List.set_cons_succ, List.set_cons_zero]; rfl))) | ((with_reducible apply TS_conv_u8); (case hx => rfl); (case hs => (simp only [aput, List.set_cons_succ, List.set_cons_zero]; rfl))) | ((with_reducible apply TS_conv_byte); (case hx => rfl); (case hs => (simp only [aput, List.set_cons_succ, List.set_cons_zero]; rfl))) | ((with_reducible apply ATK_conv); (case hx => rfl); (case hs => (simp only [aput, List.set_cons_succ, List.set_cons_zero]; rfl))) | ((with_reducible apply ATK_string); (case hx => rfl); (case hb => rfl); (case hl => (first | rfl | with_reducible assumption | (simp; done) | (simp; omega) | omega)); (case hs => (simp only [aput, List.set_cons_succ, List.set_cons_zero]; rfl))) | ((with_reducible apply ATK_string_nils); (case hx => rfl); (case hs => (simp only [aput, List.set_cons_succ, List.set_cons_zero]; rfl))) | ((with_reducible apply TS_string_isB); (case hx => rfl); (case hb => assumption); (case hs => (simp only [aput, List.set_cons_succ, List.set_cons_zero]; rfl))))) | ((with_reducible apply ATK_guard_no); (case hy => rfl); (case hb => (first | with_reducible assumption | with_reducible rfl | (simp only [d1, d2, d3, d4, d5]; done) | (simp; done) | (simp; omega))); (case hs => (simp only [aput, List.set_cons_succ, List.set_cons_zero]; rfl))) | ((with_reducible apply ATK_guard_und); (case hy => rfl); (case hs => (simp only [aput, List.set_cons_succ, List.set_cons_zero]; rfl))) | ((with_reducible apply TS_move); (case hx => rfl); (case hs => (simp only [aput, List.set_cons_succ, List.set_cons_zero]; rfl))) | ((with_reducible apply TS_assign); (case hx => rfl); (case hs => (simp only [aput, List.set_cons_succ, List.set_cons_zero]; rfl))) | ((with_reducible apply TS_eq8); (case hx => rfl); (case hy => rfl); (case hs => (simp only [aput, List.set_cons_succ, List.set_cons_zero]; rfl))) | ((with_reducible apply TS_bin); (case hx => rfl); (case hy => rfl); (case ho => rfl); (case hs => (simp only [aput, List.set_cons_succ, List.set_cons_zero]; rfl))) | ((with_reducible apply ATK_str); (case hx => rfl); (case hy => rfl); (case ho => rfl); (case hs => (simp only [aput, List.set_cons_succ, List.set_cons_zero]; rfl))) | ((with_reducible apply ATK_beq); (case hx => rfl); (case hy => rfl); (case hs => (simp only [aput, List.set_cons_succ, List.set_cons_zero]; rfl))) | ((with_reducible apply TS_conv_same); (case hx => rfl); (case hb => (first | (constructor <;> omega) | omega | (simp; done) | (simp; omega))); (case hs => (simp only [aput, List.set_cons_succ, List.set_cons_zero]; rfl))) | ((with_reducible apply TS_conv_u8); (case hx => rfl); (case hs => (simp only [aput, List.set_cons_succ, List.set_cons_zero]; rfl))) | ((with_reducible apply TS_conv_byte); (case hx => rfl); (case hs => (simp only [aput, List.set_cons_succ, List.set_cons_zero]; rfl))) | ((with_reducible apply ATK_conv); (case hx => rfl); (case hs => (simp only [aput, List.set_cons_succ, List.set_cons_zero]; rfl))) | ((with_reducible apply ATK_string); (case hx => rfl); (case hb => rfl); (case hl => (first | rfl | with_reducible assumption | (simp; done) | (simp; omega) | omega)); (case hs => (simp only [aput, List.set_cons_succ, List.set_cons_zero]; rfl))) | ((with_reducible apply ATK_string_nils); (case hx => rfl); (case hs => (simp only [aput, List.set_cons_succ, List.set_cons_zero]; rfl))) | ((with_reducible apply TS_string_isB); (case hx => rfl); (case hb => assumption); (case hs => (simp only [aput, List.set_cons_succ, List.set_cons_zero]; rfl)))))
      | ((with_reducible apply AANY_take (i := 9)); (case hn => rfl); (case hr => decide +kernel); (case ho => rfl); (case hs => kernel_rfl); (case hf => decide +kernel))
      | ((with_reducible apply AANY_take (i := 10)); (case hn => rfl); (case hr => decide +kernel); (case ho => rfl); (case hs => kernel_rfl); (case hf => decide +kernel))
      | ((with_reducible apply AANY_take (i := 11)); (case hn => rfl); (case hr => decide +kernel); (case ho => rfl); (case hs => kernel_rfl); (case hf => decide +kernel))
      | ((with_reducible apply AANY_step [2, 3, 7, 8]); (case hn => rfl); (case hr => decide +kernel); (case hne => decide +kernel))
      | with_reducible exact ACands_nil
      | with_reducible refine ACands_cons ?_ ?_
      | ((with_reducible refine ACand_no ?_); decide +kernel)
      | ((with_reducible apply ACand_yes); (case ho => rfl))
      | fail)
    all_goals
      refine ARet_ret rfl (.tmpO rfl .nil) ?_
      simp [aone]
theorem MacKeys_walk (w : World) (Akey : Option Addr) (nkey ckey : Nat) (key : List UInt8) (hkey : RBytes w [.slice Akey nkey ckey] key) (zeros : Int) (hzeros : (Lit.int .i64 zeros).wf = true) (Am : Option Addr) (nm cm : Nat) (m : List UInt8) (hm : RBytes w [.slice Am nm cm] m) :
    Calls Try.prog 3 #[.slice Akey nkey ckey, .int .i64 zeros, .slice Am nm cm] w (Tells w true) := (MacKeys_law key zeros m).tells (.cons hkey.reps (.cons Reps_int (.cons hm.reps .nil)))
end Go.Proofs.Ytdekfobcdmlelaa
