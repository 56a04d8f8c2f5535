/- MacLong. -/
import Derived.Test.YtdekfobcdmlelaaMacV
namespace Go.Proofs.Ytdekfobcdmlelaa
open Go.RowKit
set_option linter.unusedVariables false
set_option linter.unusedSimpArgs false
set_option maxRecDepth 10000
set_option maxHeartbeats 4000000
variable {M : MM} {w : World}

theorem MacLong_law (key m : List UInt8) : ACalls Try.prog 4 [.sl .none (key.map bvA) key.length, .sl .none (m.map bvA) m.length] ⟨[], [], 0⟩ (fun rv _ => rv = .bool true) := by
  refine ACalls_body Try.func4 rfl rfl ?_
  simp only [Try.ntmps4, List.length_cons, List.length_nil, Nat.reduceAdd, Nat.reduceSub, List.replicate_succ, List.replicate_zero, List.cons_append, List.nil_append]
  by_cases h1 : key.length ≤ 64
  · have d1 : decide ((key.length : Int) ≤ 64) = true := by simp; omega
    repeat' (first
      | with_reducible refine AWP_seq ?_
      | with_reducible refine AWP_region ?_
      | with_reducible refine AOPS_nil ?_
      | with_reducible refine AThen_normal ?_
      | with_reducible refine AThen_ret ?_
      | with_reducible refine AThen_exit ?_
      | with_reducible refine AThen_goto ?_
      | with_reducible refine ABlock_normal ?_
      | with_reducible refine ABlock_ret ?_
      | with_reducible refine ABlock_exit ?_
      | ((with_reducible apply ABlock_other); (case hij => rfl))
      | with_reducible refine ABlock_goto ?_
      | with_reducible refine ARound_ret ?_
      | with_reducible refine ARound_exit ?_
      | with_reducible refine ARound_goto ?_
      | with_reducible refine ANext_normal ?_
      | with_reducible refine ANext_ret ?_
      | with_reducible refine ANext_exit ?_
      | with_reducible refine ANext_goto ?_
      | with_reducible refine ARounds_step ?_
      | with_reducible refine ALoopQ_ret ?_
      | with_reducible refine ALoopQ_exit ?_
      | with_reducible refine ALoopQ_goto ?_
      | with_reducible refine AWP_block ?_
      | with_reducible refine AWP_skip ?_
      | with_reducible refine AWP_ret ?_
      | with_reducible refine AWP_exit ?_
      | with_reducible refine AWP_label ?_
      | with_reducible refine AWP_goto ?_
      | ((with_reducible apply AWP_cond_t); (case hc => rfl); (case hb => (first | with_reducible assumption | with_reducible rfl | (simp only [d1]; done) | (simp only [d1]; omega) | (simp [d1]; done) | (simp; omega))))
      | ((with_reducible apply AWP_cond_f); (case hc => rfl); (case hb => (first | with_reducible assumption | with_reducible rfl | (simp only [d1]; done) | (simp only [d1]; omega) | (simp [d1]; done) | (simp; omega))))
      | ((with_reducible apply AOPS_guard_yes); (case hy => rfl); (case hb => (first | with_reducible assumption | with_reducible rfl | (simp only [d1]; done) | (simp only [d1]; omega) | (simp [d1]; done) | (simp; omega))))
      | ((with_reducible apply AOPS_guard_no); (case hy => rfl); (case hb => (first | with_reducible assumption | with_reducible rfl | (simp only [d1]; done) | (simp only [d1]; omega) | (simp [d1]; done) | (simp; omega))); (case hs => (simp only [aput, List.set_cons_succ, List.set_cons_zero]; rfl)))
      | ((with_reducible apply AOPS_guard_und); (case hy => rfl); (case hs => (simp only [aput, List.set_cons_succ, List.set_cons_zero]; rfl)))
      | ((with_reducible apply S_move); (case hx => rfl); (case hs => (simp only [aput, List.set_cons_succ, List.set_cons_zero]; rfl)))
      | ((with_reducible apply S_assign); (case hx => rfl); (case hs => (simp only [aput, List.set_cons_succ, List.set_cons_zero]; rfl)))
      | ((with_reducible apply S_pick_t); (case hc => rfl); (case hb => (first | with_reducible assumption | with_reducible rfl | (simp only [d1]; done) | (simp only [d1]; omega) | (simp [d1]; done) | (simp; omega))); (case hx => rfl); (case hs => (simp only [aput, List.set_cons_succ, List.set_cons_zero]; rfl)))
      | ((with_reducible apply S_pick_f); (case hc => rfl); (case hb => (first | with_reducible assumption | with_reducible rfl | (simp only [d1]; done) | (simp only [d1]; omega) | (simp [d1]; done) | (simp; omega))); (case hx => rfl); (case hs => (simp only [aput, List.set_cons_succ, List.set_cons_zero]; rfl)))
      | ((with_reducible apply AOPS_not); (case hx => rfl); (case hs => (simp only [aput, List.set_cons_succ, List.set_cons_zero]; rfl)))
      | ((with_reducible apply AOPS_len_sl); (case hx => rfl); (case hs => (simp only [aput, List.set_cons_succ, List.set_cons_zero]; rfl)))
      | ((with_reducible apply AOPS_len_nils); (case hx => rfl); (case hs => (simp only [aput, List.set_cons_succ, List.set_cons_zero]; rfl)))
      | ((with_reducible apply AOPS_len_row); (case hx => rfl); (case hs => (simp only [aput, List.set_cons_succ, List.set_cons_zero]; rfl)))
      | ((with_reducible apply AOPS_len_str); (case hx => rfl); (case hs => (simp only [aput, List.set_cons_succ, List.set_cons_zero]; rfl)))
      | ((with_reducible apply S_len_isB); (case hx => rfl); (case hb => assumption); (case hs => (simp only [aput, List.set_cons_succ, List.set_cons_zero]; rfl)))
      | ((with_reducible apply S_inc8); (case hx => rfl); (case hy => rfl); (case hs => (simp only [aput, List.set_cons_succ, List.set_cons_zero]; rfl)))
      | ((with_reducible apply S_mul); (case hx => rfl); (case hy => rfl); (case hb => (first | (constructor <;> omega) | omega | (simp; done) | (simp; omega))); (case hs => (simp only [aput, List.set_cons_succ, List.set_cons_zero]; rfl)))
      | ((with_reducible apply S_add); (case hx => rfl); (case hy => rfl); (case hb => (first | (constructor <;> omega) | omega | (simp; done) | (simp; omega))); (case hs => (simp only [aput, List.set_cons_succ, List.set_cons_zero]; rfl)))
      | ((with_reducible apply S_sub); (case hx => rfl); (case hy => rfl); (case hb => (first | (constructor <;> omega) | omega | (simp; done) | (simp; omega))); (case hs => (simp only [aput, List.set_cons_succ, List.set_cons_zero]; rfl)))
      | ((with_reducible apply AOPS_shr); (case hx => rfl); (case hy => rfl); (case h0 => (first | decide | (constructor <;> simp <;> omega))); (case hs => (simp only [aput, List.set_cons_succ, List.set_cons_zero]; rfl)))
      | ((with_reducible apply AOPS_shl); (case hx => rfl); (case hy => rfl); (case h0 => (first | decide | (constructor <;> simp <;> omega))); (case hs => (simp only [aput, List.set_cons_succ, List.set_cons_zero]; rfl)))
      | ((with_reducible apply S_quo); (case hx => rfl); (case hy => rfl); (case hb => (first | (refine ⟨?_, ?_, ?_⟩ <;> omega) | (refine ⟨?_, ?_, ?_⟩ <;> simp <;> omega))); (case hs => (simp only [aput, List.set_cons_succ, List.set_cons_zero]; rfl)))
      | ((with_reducible apply S_rem); (case hx => rfl); (case hy => rfl); (case hb => (first | (constructor <;> omega) | omega | (simp; done) | (simp; omega))); (case hs => (simp only [aput, List.set_cons_succ, List.set_cons_zero]; rfl)))
      | ((with_reducible apply S_min); (case hx => rfl); (case hy => rfl); (case hs => (simp only [aput, List.set_cons_succ, List.set_cons_zero]; rfl)))
      | ((with_reducible apply S_max); (case hx => rfl); (case hy => rfl); (case hs => (simp only [aput, List.set_cons_succ, List.set_cons_zero]; rfl)))
      | ((with_reducible apply S_xor8); (case hx => rfl); (case hy => rfl); (case hs => (simp only [aput, List.set_cons_succ, List.set_cons_zero]; rfl)))
      | ((with_reducible apply S_eq8); (case hx => rfl); (case hy => rfl); (case hs => (simp only [aput, List.set_cons_succ, List.set_cons_zero]; rfl)))
      | ((with_reducible apply S_ne8); (case hx => rfl); (case hy => rfl); (case hs => (simp only [aput, List.set_cons_succ, List.set_cons_zero]; rfl)))
      | ((with_reducible apply S_bin); (case hx => rfl); (case hy => rfl); (case ho => rfl); (case hs => (simp only [aput, List.set_cons_succ, List.set_cons_zero]; rfl)))
      | ((with_reducible apply AOPS_str); (case hx => rfl); (case hy => rfl); (case ho => rfl); (case hs => (simp only [aput, List.set_cons_succ, List.set_cons_zero]; rfl)))
      | ((with_reducible apply AOPS_beq); (case hx => rfl); (case hy => rfl); (case hs => (simp only [aput, List.set_cons_succ, List.set_cons_zero]; rfl)))
      | ((with_reducible apply AOPS_bne); (case hx => rfl); (case hy => rfl); (case hs => (simp only [aput, List.set_cons_succ, List.set_cons_zero]; rfl)))
      | ((with_reducible apply S_conv_same); (case hx => rfl); (case hb => (first | (constructor <;> omega) | omega | (simp; done) | (simp; omega))); (case hs => (simp only [aput, List.set_cons_succ, List.set_cons_zero]; rfl)))
      | ((with_reducible apply S_conv_u8); (case hx => rfl); (case hs => (simp only [aput, List.set_cons_succ, List.set_cons_zero]; rfl)))
      | ((with_reducible apply S_conv_byte); (case hx => rfl); (case hs => (simp only [aput, List.set_cons_succ, List.set_cons_zero]; rfl)))
      | ((with_reducible apply AOPS_conv); (case hx => rfl); (case hs => (simp only [aput, List.set_cons_succ, List.set_cons_zero]; rfl)))
      | ((with_reducible apply T_box); (case hx => rfl); (case hf => rfl); (case hc => rfl); (case hs => (simp only [aput, List.set_cons_succ, List.set_cons_zero]; rfl)))
      | ((with_reducible apply T_alloc); (case hc => rfl); (case hs => (simp only [aput, List.set_cons_succ, List.set_cons_zero]; rfl)))
      | ((with_reducible apply AOPS_fieldAddr); (case hx => rfl); (case hs => (simp only [aput, List.set_cons_succ, List.set_cons_zero]; rfl)))
      | ((with_reducible apply AOPS_fieldAddr_epr); (case hx => rfl); (case hs => (simp only [aput, List.set_cons_succ, List.set_cons_zero]; rfl)))
      | ((with_reducible apply S_load_all); (case hx => rfl); (case ho => rfl); (case hp => rfl); (case hs => (simp only [aput, List.set_cons_succ, List.set_cons_zero]; rfl)))
      | ((with_reducible apply S_load_agg); (case hx => rfl); (case ho => rfl); (case hp => rfl); (case hs => (simp only [aput, List.set_cons_succ, List.set_cons_zero]; rfl)))
      | ((with_reducible apply S_load_epr_sub); (case hx => rfl); (case hp => rfl); (case hs => (simp only [aput, List.set_cons_succ, List.set_cons_zero]; rfl)))
      | ((with_reducible apply S_load); (case hx => rfl); (case ho => rfl); (case hp => rfl); (case hs => (simp only [aput, List.set_cons_succ, List.set_cons_zero]; rfl)))
      | ((with_reducible apply S_load_epr); (case hx => rfl); (case hp => rfl); (case hs => (simp only [aput, List.set_cons_succ, List.set_cons_zero]; rfl)))
      | ((with_reducible apply S_load_byte); (case hx => rfl); (case hlt => (first | (constructor <;> omega) | omega | (simp; done) | (simp; omega))); (case hs => (simp only [aput, List.set_cons_succ, List.set_cons_zero]; rfl)))
      | ((with_reducible apply U_store); (case hx => rfl); (case hy => rfl); (case ho => rfl); (case hf => rfl); (case hc => rfl); (case hob => rfl); (case hs => (simp only [aput, List.set_cons_succ, List.set_cons_zero]; rfl)))
      | ((with_reducible apply U_store_all); (case hx => rfl); (case hy => rfl); (case ho => rfl); (case hf => rfl); (case hl => rfl); (case hle => rfl); (case hob => rfl); (case hs => (simp only [aput, List.set_cons_succ, List.set_cons_zero]; rfl)))
      | ((with_reducible apply S_field); (case hx => rfl); (case hp => rfl); (case hs => (simp only [aput, List.set_cons_succ, List.set_cons_zero]; rfl)))
      | ((with_reducible apply S_extract); (case hx => rfl); (case hi => rfl); (case hs => (simp only [aput, List.set_cons_succ, List.set_cons_zero]; rfl)))
      | ((with_reducible apply S_iface); (case hx => rfl); (case hs => (simp only [aput, List.set_cons_succ, List.set_cons_zero]; rfl)))
      | ((with_reducible apply AOPS_makeFunc); (case h1 => rfl); (case h2 => rfl); (case hs => (simp only [aput, List.set_cons_succ, List.set_cons_zero]; rfl)))
      | ((with_reducible apply AOPS_nilCheck); (case hx => rfl); (case hs => (simp only [aput, List.set_cons_succ, List.set_cons_zero]; rfl)))
      | ((with_reducible apply S_lit); (case hp => rfl); (case ho => (first | rfl | (simp only [List.all_cons, List.all_nil, Bool.and_true, Bool.and_self, bvA_one, sl_one, nils_one, str_one, d1]; done) | (simp [AV.one, d1]; done))); (case hl => rfl); (case hzl => rfl); (case hb => decide); (case hs => (simp only [aput, List.set_cons_succ, List.set_cons_zero]; rfl)))
      | ((with_reducible apply S_build); (case hz => rfl); (case hf => rfl); (case hs => (simp only [aput, List.set_cons_succ, List.set_cons_zero]; rfl)))
      | ((with_reducible apply T_append_full); (case hx => rfl); (case hy => rfl); (case hS => (first | exact SrcOk_bytes inferInstance (by first | rfl | assumption | (simp; done) | omega) | exact SrcOk_sl inferInstance (by simp) (by first | rfl | (simp only [List.all_cons, List.all_nil, bvA_one, Bool.and_self]; done) | simp [AV.one, bvA_ones]) | exact SrcOk_nils inferInstance | exact SrcOk_str inferInstance | exact SrcOk_isB inferInstance (by assumption))); (case hl => (first | rfl | (simp; done))); (case hb => (first | (constructor <;> omega) | omega | (simp; done) | (simp; omega))); (case hs => (simp only [aput, List.set_cons_succ, List.set_cons_zero]; rfl)))
      | ((with_reducible apply T_append_nils); (case hx => rfl); (case hy => rfl); (case hS => (first | exact SrcOk_bytes inferInstance (by first | rfl | assumption | (simp; done) | omega) | exact SrcOk_sl inferInstance (by simp) (by first | rfl | (simp only [List.all_cons, List.all_nil, bvA_one, Bool.and_self]; done) | simp [AV.one, bvA_ones]) | exact SrcOk_nils inferInstance | exact SrcOk_str inferInstance | exact SrcOk_isB inferInstance (by assumption))); (case hb => (first | (constructor <;> omega) | omega | (simp; done) | (simp; omega))); (case hs => (simp only [aput, List.set_cons_succ, List.set_cons_zero]; rfl)))
      | ((with_reducible apply U_append_tok); (case hx => rfl); (case hy => rfl); (case htk => (first | rfl | (simp [alook]; done))); (case hS => (first | exact SrcOk_bytes inferInstance (by first | rfl | assumption | (simp; done) | omega) | exact SrcOk_sl inferInstance (by simp) (by first | rfl | (simp only [List.all_cons, List.all_nil, bvA_one, Bool.and_self]; done) | simp [AV.one, bvA_ones]) | exact SrcOk_nils inferInstance | exact SrcOk_str inferInstance | exact SrcOk_isB inferInstance (by assumption))); (case hb => (first | (constructor <;> omega) | omega | (simp; done) | (simp; omega))); (case ht => (first | rfl | (simp only [asetF, if_true]; rfl))); (case hs => (simp only [aput, List.set_cons_succ, List.set_cons_zero]; rfl)))
      | ((with_reducible apply S_slice8_lh); (case hx => rfl); (case hy => rfl); (case hz => rfl); (case hl => rfl); (case hh => rfl); (case hlm => (first | (constructor <;> omega) | omega | (simp; done) | (simp; omega))); (case hs => (simp only [aput, List.set_cons_succ, List.set_cons_zero]; rfl)))
      | ((with_reducible apply S_slice8_h); (case hx => rfl); (case hz => rfl); (case hh => rfl); (case hlm => (first | (constructor <;> omega) | omega | (simp; done) | (simp; omega))); (case hs => (simp only [aput, List.set_cons_succ, List.set_cons_zero]; rfl)))
      | ((with_reducible apply S_slice8_l); (case hx => rfl); (case hy => rfl); (case hl => rfl); (case hlm => (first | (constructor <;> omega) | omega | (simp; done) | (simp; omega))); (case hs => (simp only [aput, List.set_cons_succ, List.set_cons_zero]; rfl)))
      | ((with_reducible apply AOPS_string); (case hx => rfl); (case hb => rfl); (case hl => (first | rfl | with_reducible assumption | (simp; done) | (simp; omega) | omega)); (case hs => (simp only [aput, List.set_cons_succ, List.set_cons_zero]; rfl)))
      | ((with_reducible apply AOPS_string_nils); (case hx => rfl); (case hs => (simp only [aput, List.set_cons_succ, List.set_cons_zero]; rfl)))
      | ((with_reducible apply S_string_isB); (case hx => rfl); (case hb => assumption); (case hs => (simp only [aput, List.set_cons_succ, List.set_cons_zero]; rfl)))
      | ((with_reducible apply AOPS_bytes); (case hx => rfl); (case hs => (simp only [aput, List.set_cons_succ, List.set_cons_zero]; rfl)))
      | ((with_reducible apply S_indexAddr); (case hx => rfl); (case hy => rfl); (case hj => rfl); (case hi => (first | (constructor <;> omega) | omega | (simp; done) | (simp; omega))); (case ho => (first | (simp; rfl) | rfl)); (case hs => (simp only [aput, List.set_cons_succ, List.set_cons_zero]; rfl)))
      | ((with_reducible apply S_indexAddr_isB); (case hx => rfl); (case hb => assumption); (case hy => rfl); (case hj => rfl); (case hi => (first | (constructor <;> omega) | omega | (simp; done) | (simp; omega))); (case hs => (simp only [aput, List.set_cons_succ, List.set_cons_zero]; rfl)))
      | ((with_reducible apply AOPS_indexAddr); (case hx => rfl); (case hy => rfl); (case hi => (first | (constructor <;> omega) | omega | (simp; done) | (simp; omega))); (case hs => (simp only [aput, List.set_cons_succ, List.set_cons_zero]; rfl)))
      | ((with_reducible apply AOPS_indexAddr_row); (case hx => rfl); (case hy => rfl); (case hi => (first | (constructor <;> omega) | omega | (simp; done) | (simp; omega))); (case hs => (simp only [aput, List.set_cons_succ, List.set_cons_zero]; rfl)))
      | ((with_reducible apply AOPS_indexAddr_arr); (case hx => rfl); (case hy => rfl); (case hi => (first | (constructor <;> omega) | omega | (simp; done) | (simp; omega))); (case hs => (simp only [aput, List.set_cons_succ, List.set_cons_zero]; rfl)))
      | ((with_reducible apply T_make1); (case hx => rfl); (case hy => rfl); (case hi => rfl); (case hj => rfl); (case hb => (first | (constructor <;> omega) | omega | (simp; done) | (simp; omega))); (case hv => rfl); (case hz => rfl); (case hs => (simp only [aput, List.set_cons_succ, List.set_cons_zero]; rfl)))
      | ((with_reducible apply T_make); (case hx => rfl); (case hy => rfl); (case hi => rfl); (case hj => rfl); (case hb => (first | (constructor <;> omega) | omega | (simp; done) | (simp; omega))); (case hzl => rfl); (case hz => rfl); (case hs => (simp only [aput, List.set_cons_succ, List.set_cons_zero]; rfl)))
      | ((with_reducible apply S_call_val (g := 15)); (case hf => rfl); (case ha => rfl); (case h => exact anchor2_val); (case hc => exact (fun vs w => by kernel_rfl)); (case hs => (simp only [aput, List.set_cons_succ, List.set_cons_zero]; rfl)))
      | fail)
    refine ARet_ret rfl (.tmpO rfl .nil) ?_
    rfl
  have d1 : decide ((key.length : Int) ≤ 64) = false := by simp; omega
  by_cases h2 : 300 < key.length
  · have d2 : decide ((key.length : Int) > 300) = true := by simp; omega
    repeat' (first
      | with_reducible refine AWP_seq ?_
      | with_reducible refine AWP_region ?_
      | with_reducible refine AOPS_nil ?_
      | with_reducible refine AThen_normal ?_
      | with_reducible refine AThen_ret ?_
      | with_reducible refine AThen_exit ?_
      | with_reducible refine AThen_goto ?_
      | with_reducible refine ABlock_normal ?_
      | with_reducible refine ABlock_ret ?_
      | with_reducible refine ABlock_exit ?_
      | ((with_reducible apply ABlock_other); (case hij => rfl))
      | with_reducible refine ABlock_goto ?_
      | with_reducible refine ARound_ret ?_
      | with_reducible refine ARound_exit ?_
      | with_reducible refine ARound_goto ?_
      | with_reducible refine ANext_normal ?_
      | with_reducible refine ANext_ret ?_
      | with_reducible refine ANext_exit ?_
      | with_reducible refine ANext_goto ?_
      | with_reducible refine ARounds_step ?_
      | with_reducible refine ALoopQ_ret ?_
      | with_reducible refine ALoopQ_exit ?_
      | with_reducible refine ALoopQ_goto ?_
      | with_reducible refine AWP_block ?_
      | with_reducible refine AWP_skip ?_
      | with_reducible refine AWP_ret ?_
      | with_reducible refine AWP_exit ?_
      | with_reducible refine AWP_label ?_
      | with_reducible refine AWP_goto ?_
      | ((with_reducible apply AWP_cond_t); (case hc => rfl); (case hb => (first | with_reducible assumption | with_reducible rfl | (simp only [d1, d2]; done) | (simp only [d1, d2]; omega) | (simp [d1, d2]; done) | (simp; omega))))
      | ((with_reducible apply AWP_cond_f); (case hc => rfl); (case hb => (first | with_reducible assumption | with_reducible rfl | (simp only [d1, d2]; done) | (simp only [d1, d2]; omega) | (simp [d1, d2]; done) | (simp; omega))))
      | ((with_reducible apply AOPS_guard_yes); (case hy => rfl); (case hb => (first | with_reducible assumption | with_reducible rfl | (simp only [d1, d2]; done) | (simp only [d1, d2]; omega) | (simp [d1, d2]; done) | (simp; omega))))
      | ((with_reducible apply AOPS_guard_no); (case hy => rfl); (case hb => (first | with_reducible assumption | with_reducible rfl | (simp only [d1, d2]; done) | (simp only [d1, d2]; omega) | (simp [d1, d2]; done) | (simp; omega))); (case hs => (simp only [aput, List.set_cons_succ, List.set_cons_zero]; rfl)))
      | ((with_reducible apply AOPS_guard_und); (case hy => rfl); (case hs => (simp only [aput, List.set_cons_succ, List.set_cons_zero]; rfl)))
      | ((with_reducible apply S_move); (case hx => rfl); (case hs => (simp only [aput, List.set_cons_succ, List.set_cons_zero]; rfl)))
      | ((with_reducible apply S_assign); (case hx => rfl); (case hs => (simp only [aput, List.set_cons_succ, List.set_cons_zero]; rfl)))
      | ((with_reducible apply S_pick_t); (case hc => rfl); (case hb => (first | with_reducible assumption | with_reducible rfl | (simp only [d1, d2]; done) | (simp only [d1, d2]; omega) | (simp [d1, d2]; done) | (simp; omega))); (case hx => rfl); (case hs => (simp only [aput, List.set_cons_succ, List.set_cons_zero]; rfl)))
      | ((with_reducible apply S_pick_f); (case hc => rfl); (case hb => (first | with_reducible assumption | with_reducible rfl | (simp only [d1, d2]; done) | (simp only [d1, d2]; omega) | (simp [d1, d2]; done) | (simp; omega))); (case hx => rfl); (case hs => (simp only [aput, List.set_cons_succ, List.set_cons_zero]; rfl)))
      | ((with_reducible apply AOPS_not); (case hx => rfl); (case hs => (simp only [aput, List.set_cons_succ, List.set_cons_zero]; rfl)))
      | ((with_reducible apply AOPS_len_sl); (case hx => rfl); (case hs => (simp only [aput, List.set_cons_succ, List.set_cons_zero]; rfl)))
      | ((with_reducible apply AOPS_len_nils); (case hx => rfl); (case hs => (simp only [aput, List.set_cons_succ, List.set_cons_zero]; rfl)))
      | ((with_reducible apply AOPS_len_row); (case hx => rfl); (case hs => (simp only [aput, List.set_cons_succ, List.set_cons_zero]; rfl)))
      | ((with_reducible apply AOPS_len_str); (case hx => rfl); (case hs => (simp only [aput, List.set_cons_succ, List.set_cons_zero]; rfl)))
      | ((with_reducible apply S_len_isB); (case hx => rfl); (case hb => assumption); (case hs => (simp only [aput, List.set_cons_succ, List.set_cons_zero]; rfl)))
      | ((with_reducible apply S_inc8); (case hx => rfl); (case hy => rfl); (case hs => (simp only [aput, List.set_cons_succ, List.set_cons_zero]; rfl)))
      | ((with_reducible apply S_mul); (case hx => rfl); (case hy => rfl); (case hb => (first | (constructor <;> omega) | omega | (simp; done) | (simp; omega))); (case hs => (simp only [aput, List.set_cons_succ, List.set_cons_zero]; rfl)))
      | ((with_reducible apply S_add); (case hx => rfl); (case hy => rfl); (case hb => (first | (constructor <;> omega) | omega | (simp; done) | (simp; omega))); (case hs => (simp only [aput, List.set_cons_succ, List.set_cons_zero]; rfl)))
      | ((with_reducible apply S_sub); (case hx => rfl); (case hy => rfl); (case hb => (first | (constructor <;> omega) | omega | (simp; done) | (simp; omega))); (case hs => (simp only [aput, List.set_cons_succ, List.set_cons_zero]; rfl)))
      | ((with_reducible apply AOPS_shr); (case hx => rfl); (case hy => rfl); (case h0 => (first | decide | (constructor <;> simp <;> omega))); (case hs => (simp only [aput, List.set_cons_succ, List.set_cons_zero]; rfl)))
      | ((with_reducible apply AOPS_shl); (case hx => rfl); (case hy => rfl); (case h0 => (first | decide | (constructor <;> simp <;> omega))); (case hs => (simp only [aput, List.set_cons_succ, List.set_cons_zero]; rfl)))
      | ((with_reducible apply S_quo); (case hx => rfl); (case hy => rfl); (case hb => (first | (refine ⟨?_, ?_, ?_⟩ <;> omega) | (refine ⟨?_, ?_, ?_⟩ <;> simp <;> omega))); (case hs => (simp only [aput, List.set_cons_succ, List.set_cons_zero]; rfl)))
      | ((with_reducible apply S_rem); (case hx => rfl); (case hy => rfl); (case hb => (first | (constructor <;> omega) | omega | (simp; done) | (simp; omega))); (case hs => (simp only [aput, List.set_cons_succ, List.set_cons_zero]; rfl)))
      | ((with_reducible apply S_min); (case hx => rfl); (case hy => rfl); (case hs => (simp only [aput, List.set_cons_succ, List.set_cons_zero]; rfl)))
      | ((with_reducible apply S_max); (case hx => rfl); (case hy => rfl); (case hs => (simp only [aput, List.set_cons_succ, List.set_cons_zero]; rfl)))
      | ((with_reducible apply S_xor8); (case hx => rfl); (case hy => rfl); (case hs => (simp only [aput, List.set_cons_succ, List.set_cons_zero]; rfl)))
      | ((with_reducible apply S_eq8); (case hx => rfl); (case hy => rfl); (case hs => (simp only [aput, List.set_cons_succ, List.set_cons_zero]; rfl)))
      | ((with_reducible apply S_ne8); (case hx => rfl); (case hy => rfl); (case hs => (simp only [aput, List.set_cons_succ, List.set_cons_zero]; rfl)))
      | ((with_reducible apply S_bin); (case hx => rfl); (case hy => rfl); (case ho => rfl); (case hs => (simp only [aput, List.set_cons_succ, List.set_cons_zero]; rfl)))
      | ((with_reducible apply AOPS_str); (case hx => rfl); (case hy => rfl); (case ho => rfl); (case hs => (simp only [aput, List.set_cons_succ, List.set_cons_zero]; rfl)))
      | ((with_reducible apply AOPS_beq); (case hx => rfl); (case hy => rfl); (case hs => (simp only [aput, List.set_cons_succ, List.set_cons_zero]; rfl)))
      | ((with_reducible apply AOPS_bne); (case hx => rfl); (case hy => rfl); (case hs => (simp only [aput, List.set_cons_succ, List.set_cons_zero]; rfl)))
      | ((with_reducible apply S_conv_same); (case hx => rfl); (case hb => (first | (constructor <;> omega) | omega | (simp; done) | (simp; omega))); (case hs => (simp only [aput, List.set_cons_succ, List.set_cons_zero]; rfl)))
      | ((with_reducible apply S_conv_u8); (case hx => rfl); (case hs => (simp only [aput, List.set_cons_succ, List.set_cons_zero]; rfl)))
      | ((with_reducible apply S_conv_byte); (case hx => rfl); (case hs => (simp only [aput, List.set_cons_succ, List.set_cons_zero]; rfl)))
      | ((with_reducible apply AOPS_conv); (case hx => rfl); (case hs => (simp only [aput, List.set_cons_succ, List.set_cons_zero]; rfl)))
      | ((with_reducible apply T_box); (case hx => rfl); (case hf => rfl); (case hc => rfl); (case hs => (simp only [aput, List.set_cons_succ, List.set_cons_zero]; rfl)))
      | ((with_reducible apply T_alloc); (case hc => rfl); (case hs => (simp only [aput, List.set_cons_succ, List.set_cons_zero]; rfl)))
      | ((with_reducible apply AOPS_fieldAddr); (case hx => rfl); (case hs => (simp only [aput, List.set_cons_succ, List.set_cons_zero]; rfl)))
      | ((with_reducible apply AOPS_fieldAddr_epr); (case hx => rfl); (case hs => (simp only [aput, List.set_cons_succ, List.set_cons_zero]; rfl)))
      | ((with_reducible apply S_load_all); (case hx => rfl); (case ho => rfl); (case hp => rfl); (case hs => (simp only [aput, List.set_cons_succ, List.set_cons_zero]; rfl)))
      | ((with_reducible apply S_load_agg); (case hx => rfl); (case ho => rfl); (case hp => rfl); (case hs => (simp only [aput, List.set_cons_succ, List.set_cons_zero]; rfl)))
      | ((with_reducible apply S_load_epr_sub); (case hx => rfl); (case hp => rfl); (case hs => (simp only [aput, List.set_cons_succ, List.set_cons_zero]; rfl)))
      | ((with_reducible apply S_load); (case hx => rfl); (case ho => rfl); (case hp => rfl); (case hs => (simp only [aput, List.set_cons_succ, List.set_cons_zero]; rfl)))
      | ((with_reducible apply S_load_epr); (case hx => rfl); (case hp => rfl); (case hs => (simp only [aput, List.set_cons_succ, List.set_cons_zero]; rfl)))
      | ((with_reducible apply S_load_byte); (case hx => rfl); (case hlt => (first | (constructor <;> omega) | omega | (simp; done) | (simp; omega))); (case hs => (simp only [aput, List.set_cons_succ, List.set_cons_zero]; rfl)))
      | ((with_reducible apply U_store); (case hx => rfl); (case hy => rfl); (case ho => rfl); (case hf => rfl); (case hc => rfl); (case hob => rfl); (case hs => (simp only [aput, List.set_cons_succ, List.set_cons_zero]; rfl)))
      | ((with_reducible apply U_store_all); (case hx => rfl); (case hy => rfl); (case ho => rfl); (case hf => rfl); (case hl => rfl); (case hle => rfl); (case hob => rfl); (case hs => (simp only [aput, List.set_cons_succ, List.set_cons_zero]; rfl)))
      | ((with_reducible apply S_field); (case hx => rfl); (case hp => rfl); (case hs => (simp only [aput, List.set_cons_succ, List.set_cons_zero]; rfl)))
      | ((with_reducible apply S_extract); (case hx => rfl); (case hi => rfl); (case hs => (simp only [aput, List.set_cons_succ, List.set_cons_zero]; rfl)))
      | ((with_reducible apply S_iface); (case hx => rfl); (case hs => (simp only [aput, List.set_cons_succ, List.set_cons_zero]; rfl)))
      | ((with_reducible apply AOPS_makeFunc); (case h1 => rfl); (case h2 => rfl); (case hs => (simp only [aput, List.set_cons_succ, List.set_cons_zero]; rfl)))
      | ((with_reducible apply AOPS_nilCheck); (case hx => rfl); (case hs => (simp only [aput, List.set_cons_succ, List.set_cons_zero]; rfl)))
      | ((with_reducible apply S_lit); (case hp => rfl); (case ho => (first | rfl | (simp only [List.all_cons, List.all_nil, Bool.and_true, Bool.and_self, bvA_one, sl_one, nils_one, str_one, d1, d2]; done) | (simp [AV.one, d1, d2]; done))); (case hl => rfl); (case hzl => rfl); (case hb => decide); (case hs => (simp only [aput, List.set_cons_succ, List.set_cons_zero]; rfl)))
      | ((with_reducible apply S_build); (case hz => rfl); (case hf => rfl); (case hs => (simp only [aput, List.set_cons_succ, List.set_cons_zero]; rfl)))
      | ((with_reducible apply T_append_full); (case hx => rfl); (case hy => rfl); (case hS => (first | exact SrcOk_bytes inferInstance (by first | rfl | assumption | (simp; done) | omega) | exact SrcOk_sl inferInstance (by simp) (by first | rfl | (simp only [List.all_cons, List.all_nil, bvA_one, Bool.and_self]; done) | simp [AV.one, bvA_ones]) | exact SrcOk_nils inferInstance | exact SrcOk_str inferInstance | exact SrcOk_isB inferInstance (by assumption))); (case hl => (first | rfl | (simp; done))); (case hb => (first | (constructor <;> omega) | omega | (simp; done) | (simp; omega))); (case hs => (simp only [aput, List.set_cons_succ, List.set_cons_zero]; rfl)))
      | ((with_reducible apply T_append_nils); (case hx => rfl); (case hy => rfl); (case hS => (first | exact SrcOk_bytes inferInstance (by first | rfl | assumption | (simp; done) | omega) | exact SrcOk_sl inferInstance (by simp) (by first | rfl | (simp only [List.all_cons, List.all_nil, bvA_one, Bool.and_self]; done) | simp [AV.one, bvA_ones]) | exact SrcOk_nils inferInstance | exact SrcOk_str inferInstance | exact SrcOk_isB inferInstance (by assumption))); (case hb => (first | (constructor <;> omega) | omega | (simp; done) | (simp; omega))); (case hs => (simp only [aput, List.set_cons_succ, List.set_cons_zero]; rfl)))
      | ((with_reducible apply U_append_tok); (case hx => rfl); (case hy => rfl); (case htk => (first | rfl | (simp [alook]; done))); (case hS => (first | exact SrcOk_bytes inferInstance (by first | rfl | assumption | (simp; done) | omega) | exact SrcOk_sl inferInstance (by simp) (by first | rfl | (simp only [List.all_cons, List.all_nil, bvA_one, Bool.and_self]; done) | simp [AV.one, bvA_ones]) | exact SrcOk_nils inferInstance | exact SrcOk_str inferInstance | exact SrcOk_isB inferInstance (by assumption))); (case hb => (first | (constructor <;> omega) | omega | (simp; done) | (simp; omega))); (case ht => (first | rfl | (simp only [asetF, if_true]; rfl))); (case hs => (simp only [aput, List.set_cons_succ, List.set_cons_zero]; rfl)))
      | ((with_reducible apply S_slice8_lh); (case hx => rfl); (case hy => rfl); (case hz => rfl); (case hl => rfl); (case hh => rfl); (case hlm => (first | (constructor <;> omega) | omega | (simp; done) | (simp; omega))); (case hs => (simp only [aput, List.set_cons_succ, List.set_cons_zero]; rfl)))
      | ((with_reducible apply S_slice8_h); (case hx => rfl); (case hz => rfl); (case hh => rfl); (case hlm => (first | (constructor <;> omega) | omega | (simp; done) | (simp; omega))); (case hs => (simp only [aput, List.set_cons_succ, List.set_cons_zero]; rfl)))
      | ((with_reducible apply S_slice8_l); (case hx => rfl); (case hy => rfl); (case hl => rfl); (case hlm => (first | (constructor <;> omega) | omega | (simp; done) | (simp; omega))); (case hs => (simp only [aput, List.set_cons_succ, List.set_cons_zero]; rfl)))
      | ((with_reducible apply AOPS_string); (case hx => rfl); (case hb => rfl); (case hl => (first | rfl | with_reducible assumption | (simp; done) | (simp; omega) | omega)); (case hs => (simp only [aput, List.set_cons_succ, List.set_cons_zero]; rfl)))
      | ((with_reducible apply AOPS_string_nils); (case hx => rfl); (case hs => (simp only [aput, List.set_cons_succ, List.set_cons_zero]; rfl)))
      | ((with_reducible apply S_string_isB); (case hx => rfl); (case hb => assumption); (case hs => (simp only [aput, List.set_cons_succ, List.set_cons_zero]; rfl)))
      | ((with_reducible apply AOPS_bytes); (case hx => rfl); (case hs => (simp only [aput, List.set_cons_succ, List.set_cons_zero]; rfl)))
      | ((with_reducible apply S_indexAddr); (case hx => rfl); (case hy => rfl); (case hj => rfl); (case hi => (first | (constructor <;> omega) | omega | (simp; done) | (simp; omega))); (case ho => (first | (simp; rfl) | rfl)); (case hs => (simp only [aput, List.set_cons_succ, List.set_cons_zero]; rfl)))
      | ((with_reducible apply S_indexAddr_isB); (case hx => rfl); (case hb => assumption); (case hy => rfl); (case hj => rfl); (case hi => (first | (constructor <;> omega) | omega | (simp; done) | (simp; omega))); (case hs => (simp only [aput, List.set_cons_succ, List.set_cons_zero]; rfl)))
      | ((with_reducible apply AOPS_indexAddr); (case hx => rfl); (case hy => rfl); (case hi => (first | (constructor <;> omega) | omega | (simp; done) | (simp; omega))); (case hs => (simp only [aput, List.set_cons_succ, List.set_cons_zero]; rfl)))
      | ((with_reducible apply AOPS_indexAddr_row); (case hx => rfl); (case hy => rfl); (case hi => (first | (constructor <;> omega) | omega | (simp; done) | (simp; omega))); (case hs => (simp only [aput, List.set_cons_succ, List.set_cons_zero]; rfl)))
      | ((with_reducible apply AOPS_indexAddr_arr); (case hx => rfl); (case hy => rfl); (case hi => (first | (constructor <;> omega) | omega | (simp; done) | (simp; omega))); (case hs => (simp only [aput, List.set_cons_succ, List.set_cons_zero]; rfl)))
      | ((with_reducible apply T_make1); (case hx => rfl); (case hy => rfl); (case hi => rfl); (case hj => rfl); (case hb => (first | (constructor <;> omega) | omega | (simp; done) | (simp; omega))); (case hv => rfl); (case hz => rfl); (case hs => (simp only [aput, List.set_cons_succ, List.set_cons_zero]; rfl)))
      | ((with_reducible apply T_make); (case hx => rfl); (case hy => rfl); (case hi => rfl); (case hj => rfl); (case hb => (first | (constructor <;> omega) | omega | (simp; done) | (simp; omega))); (case hzl => rfl); (case hz => rfl); (case hs => (simp only [aput, List.set_cons_succ, List.set_cons_zero]; rfl)))
      | ((with_reducible apply S_call_val (g := 15)); (case hf => rfl); (case ha => rfl); (case h => exact anchor2_val); (case hc => exact (fun vs w => by kernel_rfl)); (case hs => (simp only [aput, List.set_cons_succ, List.set_cons_zero]; rfl)))
      | fail)
    refine ARet_ret rfl (.tmpO rfl .nil) ?_
    rfl
  have d2 : decide ((key.length : Int) > 300) = false := by simp; omega
  by_cases h3 : 200 < m.length
  · have d3 : decide ((m.length : Int) > 200) = true := by simp; omega
    repeat' (first
      | with_reducible refine AWP_seq ?_
      | with_reducible refine AWP_region ?_
      | with_reducible refine AOPS_nil ?_
      | with_reducible refine AThen_normal ?_
      | with_reducible refine AThen_ret ?_
      | with_reducible refine AThen_exit ?_
      | with_reducible refine AThen_goto ?_
      | with_reducible refine ABlock_normal ?_
      | with_reducible refine ABlock_ret ?_
      | with_reducible refine ABlock_exit ?_
      | ((with_reducible apply ABlock_other); (case hij => rfl))
      | with_reducible refine ABlock_goto ?_
      | with_reducible refine ARound_ret ?_
      | with_reducible refine ARound_exit ?_
      | with_reducible refine ARound_goto ?_
      | with_reducible refine ANext_normal ?_
      | with_reducible refine ANext_ret ?_
      | with_reducible refine ANext_exit ?_
      | with_reducible refine ANext_goto ?_
      | with_reducible refine ARounds_step ?_
      | with_reducible refine ALoopQ_ret ?_
      | with_reducible refine ALoopQ_exit ?_
      | with_reducible refine ALoopQ_goto ?_
      | with_reducible refine AWP_block ?_
      | with_reducible refine AWP_skip ?_
      | with_reducible refine AWP_ret ?_
      | with_reducible refine AWP_exit ?_
      | with_reducible refine AWP_label ?_
      | with_reducible refine AWP_goto ?_
      | ((with_reducible apply AWP_cond_t); (case hc => rfl); (case hb => (first | with_reducible assumption | with_reducible rfl | (simp only [d1, d2, d3]; done) | (simp only [d1, d2, d3]; omega) | (simp [d1, d2, d3]; done) | (simp; omega))))
      | ((with_reducible apply AWP_cond_f); (case hc => rfl); (case hb => (first | with_reducible assumption | with_reducible rfl | (simp only [d1, d2, d3]; done) | (simp only [d1, d2, d3]; omega) | (simp [d1, d2, d3]; done) | (simp; omega))))
      | ((with_reducible apply AOPS_guard_yes); (case hy => rfl); (case hb => (first | with_reducible assumption | with_reducible rfl | (simp only [d1, d2, d3]; done) | (simp only [d1, d2, d3]; omega) | (simp [d1, d2, d3]; done) | (simp; omega))))
      | ((with_reducible apply AOPS_guard_no); (case hy => rfl); (case hb => (first | with_reducible assumption | with_reducible rfl | (simp only [d1, d2, d3]; done) | (simp only [d1, d2, d3]; omega) | (simp [d1, d2, d3]; done) | (simp; omega))); (case hs => (simp only [aput, List.set_cons_succ, List.set_cons_zero]; rfl)))
      | ((with_reducible apply AOPS_guard_und); (case hy => rfl); (case hs => (simp only [aput, List.set_cons_succ, List.set_cons_zero]; rfl)))
      | ((with_reducible apply S_move); (case hx => rfl); (case hs => (simp only [aput, List.set_cons_succ, List.set_cons_zero]; rfl)))
      | ((with_reducible apply S_assign); (case hx => rfl); (case hs => (simp only [aput, List.set_cons_succ, List.set_cons_zero]; rfl)))
      | ((with_reducible apply S_pick_t); (case hc => rfl); (case hb => (first | with_reducible assumption | with_reducible rfl | (simp only [d1, d2, d3]; done) | (simp only [d1, d2, d3]; omega) | (simp [d1, d2, d3]; done) | (simp; omega))); (case hx => rfl); (case hs => (simp only [aput, List.set_cons_succ, List.set_cons_zero]; rfl)))
      | ((with_reducible apply S_pick_f); (case hc => rfl); (case hb => (first | with_reducible assumption | with_reducible rfl | (simp only [d1, d2, d3]; done) | (simp only [d1, d2, d3]; omega) | (simp [d1, d2, d3]; done) | (simp; omega))); (case hx => rfl); (case hs => (simp only [aput, List.set_cons_succ, List.set_cons_zero]; rfl)))
      | ((with_reducible apply AOPS_not); (case hx => rfl); (case hs => (simp only [aput, List.set_cons_succ, List.set_cons_zero]; rfl)))
      | ((with_reducible apply AOPS_len_sl); (case hx => rfl); (case hs => (simp only [aput, List.set_cons_succ, List.set_cons_zero]; rfl)))
      | ((with_reducible apply AOPS_len_nils); (case hx => rfl); (case hs => (simp only [aput, List.set_cons_succ, List.set_cons_zero]; rfl)))
      | ((with_reducible apply AOPS_len_row); (case hx => rfl); (case hs => (simp only [aput, List.set_cons_succ, List.set_cons_zero]; rfl)))
      | ((with_reducible apply AOPS_len_str); (case hx => rfl); (case hs => (simp only [aput, List.set_cons_succ, List.set_cons_zero]; rfl)))
      | ((with_reducible apply S_len_isB); (case hx => rfl); (case hb => assumption); (case hs => (simp only [aput, List.set_cons_succ, List.set_cons_zero]; rfl)))
      | ((with_reducible apply S_inc8); (case hx => rfl); (case hy => rfl); (case hs => (simp only [aput, List.set_cons_succ, List.set_cons_zero]; rfl)))
      | ((with_reducible apply S_mul); (case hx => rfl); (case hy => rfl); (case hb => (first | (constructor <;> omega) | omega | (simp; done) | (simp; omega))); (case hs => (simp only [aput, List.set_cons_succ, List.set_cons_zero]; rfl)))
      | ((with_reducible apply S_add); (case hx => rfl); (case hy => rfl); (case hb => (first | (constructor <;> omega) | omega | (simp; done) | (simp; omega))); (case hs => (simp only [aput, List.set_cons_succ, List.set_cons_zero]; rfl)))
      | ((with_reducible apply S_sub); (case hx => rfl); (case hy => rfl); (case hb => (first | (constructor <;> omega) | omega | (simp; done) | (simp; omega))); (case hs => (simp only [aput, List.set_cons_succ, List.set_cons_zero]; rfl)))
      | ((with_reducible apply AOPS_shr); (case hx => rfl); (case hy => rfl); (case h0 => (first | decide | (constructor <;> simp <;> omega))); (case hs => (simp only [aput, List.set_cons_succ, List.set_cons_zero]; rfl)))
      | ((with_reducible apply AOPS_shl); (case hx => rfl); (case hy => rfl); (case h0 => (first | decide | (constructor <;> simp <;> omega))); (case hs => (simp only [aput, List.set_cons_succ, List.set_cons_zero]; rfl)))
      | ((with_reducible apply S_quo); (case hx => rfl); (case hy => rfl); (case hb => (first | (refine ⟨?_, ?_, ?_⟩ <;> omega) | (refine ⟨?_, ?_, ?_⟩ <;> simp <;> omega))); (case hs => (simp only [aput, List.set_cons_succ, List.set_cons_zero]; rfl)))
      | ((with_reducible apply S_rem); (case hx => rfl); (case hy => rfl); (case hb => (first | (constructor <;> omega) | omega | (simp; done) | (simp; omega))); (case hs => (simp only [aput, List.set_cons_succ, List.set_cons_zero]; rfl)))
      | ((with_reducible apply S_min); (case hx => rfl); (case hy => rfl); (case hs => (simp only [aput, List.set_cons_succ, List.set_cons_zero]; rfl)))
      | ((with_reducible apply S_max); (case hx => rfl); (case hy => rfl); (case hs => (simp only [aput, List.set_cons_succ, List.set_cons_zero]; rfl)))
      | ((with_reducible apply S_xor8); (case hx => rfl); (case hy => rfl); (case hs => (simp only [aput, List.set_cons_succ, List.set_cons_zero]; rfl)))
      | ((with_reducible apply S_eq8); (case hx => rfl); (case hy => rfl); (case hs => (simp only [aput, List.set_cons_succ, List.set_cons_zero]; rfl)))
      | ((with_reducible apply S_ne8); (case hx => rfl); (case hy => rfl); (case hs => (simp only [aput, List.set_cons_succ, List.set_cons_zero]; rfl)))
      | ((with_reducible apply S_bin); (case hx => rfl); (case hy => rfl); (case ho => rfl); (case hs => (simp only [aput, List.set_cons_succ, List.set_cons_zero]; rfl)))
      | ((with_reducible apply AOPS_str); (case hx => rfl); (case hy => rfl); (case ho => rfl); (case hs => (simp only [aput, List.set_cons_succ, List.set_cons_zero]; rfl)))
      | ((with_reducible apply AOPS_beq); (case hx => rfl); (case hy => rfl); (case hs => (simp only [aput, List.set_cons_succ, List.set_cons_zero]; rfl)))
      | ((with_reducible apply AOPS_bne); (case hx => rfl); (case hy => rfl); (case hs => (simp only [aput, List.set_cons_succ, List.set_cons_zero]; rfl)))
      | ((with_reducible apply S_conv_same); (case hx => rfl); (case hb => (first | (constructor <;> omega) | omega | (simp; done) | (simp; omega))); (case hs => (simp only [aput, List.set_cons_succ, List.set_cons_zero]; rfl)))
      | ((with_reducible apply S_conv_u8); (case hx => rfl); (case hs => (simp only [aput, List.set_cons_succ, List.set_cons_zero]; rfl)))
      | ((with_reducible apply S_conv_byte); (case hx => rfl); (case hs => (simp only [aput, List.set_cons_succ, List.set_cons_zero]; rfl)))
      | ((with_reducible apply AOPS_conv); (case hx => rfl); (case hs => (simp only [aput, List.set_cons_succ, List.set_cons_zero]; rfl)))
      | ((with_reducible apply T_box); (case hx => rfl); (case hf => rfl); (case hc => rfl); (case hs => (simp only [aput, List.set_cons_succ, List.set_cons_zero]; rfl)))
      | ((with_reducible apply T_alloc); (case hc => rfl); (case hs => (simp only [aput, List.set_cons_succ, List.set_cons_zero]; rfl)))
      | ((with_reducible apply AOPS_fieldAddr); (case hx => rfl); (case hs => (simp only [aput, List.set_cons_succ, List.set_cons_zero]; rfl)))
      | ((with_reducible apply AOPS_fieldAddr_epr); (case hx => rfl); (case hs => (simp only [aput, List.set_cons_succ, List.set_cons_zero]; rfl)))
      | ((with_reducible apply S_load_all); (case hx => rfl); (case ho => rfl); (case hp => rfl); (case hs => (simp only [aput, List.set_cons_succ, List.set_cons_zero]; rfl)))
      | ((with_reducible apply S_load_agg); (case hx => rfl); (case ho => rfl); (case hp => rfl); (case hs => (simp only [aput, List.set_cons_succ, List.set_cons_zero]; rfl)))
      | ((with_reducible apply S_load_epr_sub); (case hx => rfl); (case hp => rfl); (case hs => (simp only [aput, List.set_cons_succ, List.set_cons_zero]; rfl)))
      | ((with_reducible apply S_load); (case hx => rfl); (case ho => rfl); (case hp => rfl); (case hs => (simp only [aput, List.set_cons_succ, List.set_cons_zero]; rfl)))
      | ((with_reducible apply S_load_epr); (case hx => rfl); (case hp => rfl); (case hs => (simp only [aput, List.set_cons_succ, List.set_cons_zero]; rfl)))
      | ((with_reducible apply S_load_byte); (case hx => rfl); (case hlt => (first | (constructor <;> omega) | omega | (simp; done) | (simp; omega))); (case hs => (simp only [aput, List.set_cons_succ, List.set_cons_zero]; rfl)))
      | ((with_reducible apply U_store); (case hx => rfl); (case hy => rfl); (case ho => rfl); (case hf => rfl); (case hc => rfl); (case hob => rfl); (case hs => (simp only [aput, List.set_cons_succ, List.set_cons_zero]; rfl)))
      | ((with_reducible apply U_store_all); (case hx => rfl); (case hy => rfl); (case ho => rfl); (case hf => rfl); (case hl => rfl); (case hle => rfl); (case hob => rfl); (case hs => (simp only [aput, List.set_cons_succ, List.set_cons_zero]; rfl)))
      | ((with_reducible apply S_field); (case hx => rfl); (case hp => rfl); (case hs => (simp only [aput, List.set_cons_succ, List.set_cons_zero]; rfl)))
      | ((with_reducible apply S_extract); (case hx => rfl); (case hi => rfl); (case hs => (simp only [aput, List.set_cons_succ, List.set_cons_zero]; rfl)))
      | ((with_reducible apply S_iface); (case hx => rfl); (case hs => (simp only [aput, List.set_cons_succ, List.set_cons_zero]; rfl)))
      | ((with_reducible apply AOPS_makeFunc); (case h1 => rfl); (case h2 => rfl); (case hs => (simp only [aput, List.set_cons_succ, List.set_cons_zero]; rfl)))
      | ((with_reducible apply AOPS_nilCheck); (case hx => rfl); (case hs => (simp only [aput, List.set_cons_succ, List.set_cons_zero]; rfl)))
      | ((with_reducible apply S_lit); (case hp => rfl); (case ho => (first | rfl | (simp only [List.all_cons, List.all_nil, Bool.and_true, Bool.and_self, bvA_one, sl_one, nils_one, str_one, d1, d2, d3]; done) | (simp [AV.one, d1, d2, d3]; done))); (case hl => rfl); (case hzl => rfl); (case hb => decide); (case hs => (simp only [aput, List.set_cons_succ, List.set_cons_zero]; rfl)))
      | ((with_reducible apply S_build); (case hz => rfl); (case hf => rfl); (case hs => (simp only [aput, List.set_cons_succ, List.set_cons_zero]; rfl)))
      | ((with_reducible apply T_append_full); (case hx => rfl); (case hy => rfl); (case hS => (first | exact SrcOk_bytes inferInstance (by first | rfl | assumption | (simp; done) | omega) | exact SrcOk_sl inferInstance (by simp) (by first | rfl | (simp only [List.all_cons, List.all_nil, bvA_one, Bool.and_self]; done) | simp [AV.one, bvA_ones]) | exact SrcOk_nils inferInstance | exact SrcOk_str inferInstance | exact SrcOk_isB inferInstance (by assumption))); (case hl => (first | rfl | (simp; done))); (case hb => (first | (constructor <;> omega) | omega | (simp; done) | (simp; omega))); (case hs => (simp only [aput, List.set_cons_succ, List.set_cons_zero]; rfl)))
      | ((with_reducible apply T_append_nils); (case hx => rfl); (case hy => rfl); (case hS => (first | exact SrcOk_bytes inferInstance (by first | rfl | assumption | (simp; done) | omega) | exact SrcOk_sl inferInstance (by simp) (by first | rfl | (simp only [List.all_cons, List.all_nil, bvA_one, Bool.and_self]; done) | simp [AV.one, bvA_ones]) | exact SrcOk_nils inferInstance | exact SrcOk_str inferInstance | exact SrcOk_isB inferInstance (by assumption))); (case hb => (first | (constructor <;> omega) | omega | (simp; done) | (simp; omega))); (case hs => (simp only [aput, List.set_cons_succ, List.set_cons_zero]; rfl)))
      | ((with_reducible apply U_append_tok); (case hx => rfl); (case hy => rfl); (case htk => (first | rfl | (simp [alook]; done))); (case hS => (first | exact SrcOk_bytes inferInstance (by first | rfl | assumption | (simp; done) | omega) | exact SrcOk_sl inferInstance (by simp) (by first | rfl | (simp only [List.all_cons, List.all_nil, bvA_one, Bool.and_self]; done) | simp [AV.one, bvA_ones]) | exact SrcOk_nils inferInstance | exact SrcOk_str inferInstance | exact SrcOk_isB inferInstance (by assumption))); (case hb => (first | (constructor <;> omega) | omega | (simp; done) | (simp; omega))); (case ht => (first | rfl | (simp only [asetF, if_true]; rfl))); (case hs => (simp only [aput, List.set_cons_succ, List.set_cons_zero]; rfl)))
      | ((with_reducible apply S_slice8_lh); (case hx => rfl); (case hy => rfl); (case hz => rfl); (case hl => rfl); (case hh => rfl); (case hlm => (first | (constructor <;> omega) | omega | (simp; done) | (simp; omega))); (case hs => (simp only [aput, List.set_cons_succ, List.set_cons_zero]; rfl)))
      | ((with_reducible apply S_slice8_h); (case hx => rfl); (case hz => rfl); (case hh => rfl); (case hlm => (first | (constructor <;> omega) | omega | (simp; done) | (simp; omega))); (case hs => (simp only [aput, List.set_cons_succ, List.set_cons_zero]; rfl)))
      | ((with_reducible apply S_slice8_l); (case hx => rfl); (case hy => rfl); (case hl => rfl); (case hlm => (first | (constructor <;> omega) | omega | (simp; done) | (simp; omega))); (case hs => (simp only [aput, List.set_cons_succ, List.set_cons_zero]; rfl)))
      | ((with_reducible apply AOPS_string); (case hx => rfl); (case hb => rfl); (case hl => (first | rfl | with_reducible assumption | (simp; done) | (simp; omega) | omega)); (case hs => (simp only [aput, List.set_cons_succ, List.set_cons_zero]; rfl)))
      | ((with_reducible apply AOPS_string_nils); (case hx => rfl); (case hs => (simp only [aput, List.set_cons_succ, List.set_cons_zero]; rfl)))
      | ((with_reducible apply S_string_isB); (case hx => rfl); (case hb => assumption); (case hs => (simp only [aput, List.set_cons_succ, List.set_cons_zero]; rfl)))
      | ((with_reducible apply AOPS_bytes); (case hx => rfl); (case hs => (simp only [aput, List.set_cons_succ, List.set_cons_zero]; rfl)))
      | ((with_reducible apply S_indexAddr); (case hx => rfl); (case hy => rfl); (case hj => rfl); (case hi => (first | (constructor <;> omega) | omega | (simp; done) | (simp; omega))); (case ho => (first | (simp; rfl) | rfl)); (case hs => (simp only [aput, List.set_cons_succ, List.set_cons_zero]; rfl)))
      | ((with_reducible apply S_indexAddr_isB); (case hx => rfl); (case hb => assumption); (case hy => rfl); (case hj => rfl); (case hi => (first | (constructor <;> omega) | omega | (simp; done) | (simp; omega))); (case hs => (simp only [aput, List.set_cons_succ, List.set_cons_zero]; rfl)))
      | ((with_reducible apply AOPS_indexAddr); (case hx => rfl); (case hy => rfl); (case hi => (first | (constructor <;> omega) | omega | (simp; done) | (simp; omega))); (case hs => (simp only [aput, List.set_cons_succ, List.set_cons_zero]; rfl)))
      | ((with_reducible apply AOPS_indexAddr_row); (case hx => rfl); (case hy => rfl); (case hi => (first | (constructor <;> omega) | omega | (simp; done) | (simp; omega))); (case hs => (simp only [aput, List.set_cons_succ, List.set_cons_zero]; rfl)))
      | ((with_reducible apply AOPS_indexAddr_arr); (case hx => rfl); (case hy => rfl); (case hi => (first | (constructor <;> omega) | omega | (simp; done) | (simp; omega))); (case hs => (simp only [aput, List.set_cons_succ, List.set_cons_zero]; rfl)))
      | ((with_reducible apply T_make1); (case hx => rfl); (case hy => rfl); (case hi => rfl); (case hj => rfl); (case hb => (first | (constructor <;> omega) | omega | (simp; done) | (simp; omega))); (case hv => rfl); (case hz => rfl); (case hs => (simp only [aput, List.set_cons_succ, List.set_cons_zero]; rfl)))
      | ((with_reducible apply T_make); (case hx => rfl); (case hy => rfl); (case hi => rfl); (case hj => rfl); (case hb => (first | (constructor <;> omega) | omega | (simp; done) | (simp; omega))); (case hzl => rfl); (case hz => rfl); (case hs => (simp only [aput, List.set_cons_succ, List.set_cons_zero]; rfl)))
      | ((with_reducible apply S_call_val (g := 15)); (case hf => rfl); (case ha => rfl); (case h => exact anchor2_val); (case hc => exact (fun vs w => by kernel_rfl)); (case hs => (simp only [aput, List.set_cons_succ, List.set_cons_zero]; rfl)))
      | fail)
    refine ARet_ret rfl (.tmpO rfl .nil) ?_
    rfl
  have d3 : decide ((m.length : Int) > 200) = false := by simp; omega
  repeat' (first
    | with_reducible refine AWP_seq ?_
    | with_reducible refine AWP_region ?_
    | with_reducible refine AOPS_nil ?_
    | with_reducible refine AThen_normal ?_
    | with_reducible refine AThen_ret ?_
    | with_reducible refine AThen_exit ?_
    | with_reducible refine AThen_goto ?_
    | with_reducible refine ABlock_normal ?_
    | with_reducible refine ABlock_ret ?_
    | with_reducible refine ABlock_exit ?_
    | ((with_reducible apply ABlock_other); (case hij => rfl))
    | with_reducible refine ABlock_goto ?_
    | with_reducible refine ARound_ret ?_
    | with_reducible refine ARound_exit ?_
    | with_reducible refine ARound_goto ?_
    | with_reducible refine ANext_normal ?_
    | with_reducible refine ANext_ret ?_
    | with_reducible refine ANext_exit ?_
    | with_reducible refine ANext_goto ?_
    | with_reducible refine ARounds_step ?_
    | with_reducible refine ALoopQ_ret ?_
    | with_reducible refine ALoopQ_exit ?_
    | with_reducible refine ALoopQ_goto ?_
    | with_reducible refine AWP_block ?_
    | with_reducible refine AWP_skip ?_
    | with_reducible refine AWP_ret ?_
    | with_reducible refine AWP_exit ?_
    | with_reducible refine AWP_label ?_
    | with_reducible refine AWP_goto ?_
    | ((with_reducible apply AWP_cond_t); (case hc => rfl); (case hb => (first | with_reducible assumption | with_reducible rfl | (simp only [d1, d2, d3]; done) | (simp only [d1, d2, d3]; omega) | (simp [d1, d2, d3]; done) | (simp; omega))))
    | ((with_reducible apply AWP_cond_f); (case hc => rfl); (case hb => (first | with_reducible assumption | with_reducible rfl | (simp only [d1, d2, d3]; done) | (simp only [d1, d2, d3]; omega) | (simp [d1, d2, d3]; done) | (simp; omega))))
    | ((with_reducible apply AOPS_guard_yes); (case hy => rfl); (case hb => (first | with_reducible assumption | with_reducible rfl | (simp only [d1, d2, d3]; done) | (simp only [d1, d2, d3]; omega) | (simp [d1, d2, d3]; done) | (simp; omega))))
    | ((with_reducible apply AOPS_guard_no); (case hy => rfl); (case hb => (first | with_reducible assumption | with_reducible rfl | (simp only [d1, d2, d3]; done) | (simp only [d1, d2, d3]; omega) | (simp [d1, d2, d3]; done) | (simp; omega))); (case hs => (simp only [aput, List.set_cons_succ, List.set_cons_zero]; rfl)))
    | ((with_reducible apply AOPS_guard_und); (case hy => rfl); (case hs => (simp only [aput, List.set_cons_succ, List.set_cons_zero]; rfl)))
    | ((with_reducible apply S_move); (case hx => rfl); (case hs => (simp only [aput, List.set_cons_succ, List.set_cons_zero]; rfl)))
    | ((with_reducible apply S_assign); (case hx => rfl); (case hs => (simp only [aput, List.set_cons_succ, List.set_cons_zero]; rfl)))
    | ((with_reducible apply S_pick_t); (case hc => rfl); (case hb => (first | with_reducible assumption | with_reducible rfl | (simp only [d1, d2, d3]; done) | (simp only [d1, d2, d3]; omega) | (simp [d1, d2, d3]; done) | (simp; omega))); (case hx => rfl); (case hs => (simp only [aput, List.set_cons_succ, List.set_cons_zero]; rfl)))
    | ((with_reducible apply S_pick_f); (case hc => rfl); (case hb => (first | with_reducible assumption | with_reducible rfl | (simp only [d1, d2, d3]; done) | (simp only [d1, d2, d3]; omega) | (simp [d1, d2, d3]; done) | (simp; omega))); (case hx => rfl); (case hs => (simp only [aput, List.set_cons_succ, List.set_cons_zero]; rfl)))
    | ((with_reducible apply AOPS_not); (case hx => rfl); (case hs => (simp only [aput, List.set_cons_succ, List.set_cons_zero]; rfl)))
    | ((with_reducible apply AOPS_len_sl); (case hx => rfl); (case hs => (simp only [aput, List.set_cons_succ, List.set_cons_zero]; rfl)))
    | ((with_reducible apply AOPS_len_nils); (case hx => rfl); (case hs => (simp only [aput, List.set_cons_succ, List.set_cons_zero]; rfl)))
    | ((with_reducible apply AOPS_len_row); (case hx => rfl); (case hs => (simp only [aput, List.set_cons_succ, List.set_cons_zero]; rfl)))
    | ((with_reducible apply AOPS_len_str); (case hx => rfl); (case hs => (simp only [aput, List.set_cons_succ, List.set_cons_zero]; rfl)))
    | ((with_reducible apply S_len_isB); (case hx => rfl); (case hb => assumption); (case hs => (simp only [aput, List.set_cons_succ, List.set_cons_zero]; rfl)))
    | ((with_reducible apply S_inc8); (case hx => rfl); (case hy => rfl); (case hs => (simp only [aput, List.set_cons_succ, List.set_cons_zero]; rfl)))
    | ((with_reducible apply S_mul); (case hx => rfl); (case hy => rfl); (case hb => (first | (constructor <;> omega) | omega | (simp; done) | (simp; omega))); (case hs => (simp only [aput, List.set_cons_succ, List.set_cons_zero]; rfl)))
    | ((with_reducible apply S_add); (case hx => rfl); (case hy => rfl); (case hb => (first | (constructor <;> omega) | omega | (simp; done) | (simp; omega))); (case hs => (simp only [aput, List.set_cons_succ, List.set_cons_zero]; rfl)))
    | ((with_reducible apply S_sub); (case hx => rfl); (case hy => rfl); (case hb => (first | (constructor <;> omega) | omega | (simp; done) | (simp; omega))); (case hs => (simp only [aput, List.set_cons_succ, List.set_cons_zero]; rfl)))
    | ((with_reducible apply AOPS_shr); (case hx => rfl); (case hy => rfl); (case h0 => (first | decide | (constructor <;> simp <;> omega))); (case hs => (simp only [aput, List.set_cons_succ, List.set_cons_zero]; rfl)))
    | ((with_reducible apply AOPS_shl); (case hx => rfl); (case hy => rfl); (case h0 => (first | decide | (constructor <;> simp <;> omega))); (case hs => (simp only [aput, List.set_cons_succ, List.set_cons_zero]; rfl)))
    | ((with_reducible apply S_quo); (case hx => rfl); (case hy => rfl); (case hb => (first | (refine ⟨?_, ?_, ?_⟩ <;> omega) | (refine ⟨?_, ?_, ?_⟩ <;> simp <;> omega))); (case hs => (simp only [aput, List.set_cons_succ, List.set_cons_zero]; rfl)))
    | ((with_reducible apply S_rem); (case hx => rfl); (case hy => rfl); (case hb => (first | (constructor <;> omega) | omega | (simp; done) | (simp; omega))); (case hs => (simp only [aput, List.set_cons_succ, List.set_cons_zero]; rfl)))
    | ((with_reducible apply S_min); (case hx => rfl); (case hy => rfl); (case hs => (simp only [aput, List.set_cons_succ, List.set_cons_zero]; rfl)))
    | ((with_reducible apply S_max); (case hx => rfl); (case hy => rfl); (case hs => (simp only [aput, List.set_cons_succ, List.set_cons_zero]; rfl)))
    | ((with_reducible apply S_xor8); (case hx => rfl); (case hy => rfl); (case hs => (simp only [aput, List.set_cons_succ, List.set_cons_zero]; rfl)))
    | ((with_reducible apply S_eq8); (case hx => rfl); (case hy => rfl); (case hs => (simp only [aput, List.set_cons_succ, List.set_cons_zero]; rfl)))
    | ((with_reducible apply S_ne8); (case hx => rfl); (case hy => rfl); (case hs => (simp only [aput, List.set_cons_succ, List.set_cons_zero]; rfl)))
    | ((with_reducible apply S_bin); (case hx => rfl); (case hy => rfl); (case ho => rfl); (case hs => (simp only [aput, List.set_cons_succ, List.set_cons_zero]; rfl)))
    | ((with_reducible apply AOPS_str); (case hx => rfl); (case hy => rfl); (case ho => rfl); (case hs => (simp only [aput, List.set_cons_succ, List.set_cons_zero]; rfl)))
    | ((with_reducible apply AOPS_beq); (case hx => rfl); (case hy => rfl); (case hs => (simp only [aput, List.set_cons_succ, List.set_cons_zero]; rfl)))
    | ((with_reducible apply AOPS_bne); (case hx => rfl); (case hy => rfl); (case hs => (simp only [aput, List.set_cons_succ, List.set_cons_zero]; rfl)))
    | ((with_reducible apply S_conv_same); (case hx => rfl); (case hb => (first | (constructor <;> omega) | omega | (simp; done) | (simp; omega))); (case hs => (simp only [aput, List.set_cons_succ, List.set_cons_zero]; rfl)))
    | ((with_reducible apply S_conv_u8); (case hx => rfl); (case hs => (simp only [aput, List.set_cons_succ, List.set_cons_zero]; rfl)))
    | ((with_reducible apply S_conv_byte); (case hx => rfl); (case hs => (simp only [aput, List.set_cons_succ, List.set_cons_zero]; rfl)))
    | ((with_reducible apply AOPS_conv); (case hx => rfl); (case hs => (simp only [aput, List.set_cons_succ, List.set_cons_zero]; rfl)))
    | ((with_reducible apply T_box); (case hx => rfl); (case hf => rfl); (case hc => rfl); (case hs => (simp only [aput, List.set_cons_succ, List.set_cons_zero]; rfl)))
    | ((with_reducible apply T_alloc); (case hc => rfl); (case hs => (simp only [aput, List.set_cons_succ, List.set_cons_zero]; rfl)))
    | ((with_reducible apply AOPS_fieldAddr); (case hx => rfl); (case hs => (simp only [aput, List.set_cons_succ, List.set_cons_zero]; rfl)))
    | ((with_reducible apply AOPS_fieldAddr_epr); (case hx => rfl); (case hs => (simp only [aput, List.set_cons_succ, List.set_cons_zero]; rfl)))
    | ((with_reducible apply S_load_all); (case hx => rfl); (case ho => rfl); (case hp => rfl); (case hs => (simp only [aput, List.set_cons_succ, List.set_cons_zero]; rfl)))
    | ((with_reducible apply S_load_agg); (case hx => rfl); (case ho => rfl); (case hp => rfl); (case hs => (simp only [aput, List.set_cons_succ, List.set_cons_zero]; rfl)))
    | ((with_reducible apply S_load_epr_sub); (case hx => rfl); (case hp => rfl); (case hs => (simp only [aput, List.set_cons_succ, List.set_cons_zero]; rfl)))
    | ((with_reducible apply S_load); (case hx => rfl); (case ho => rfl); (case hp => rfl); (case hs => (simp only [aput, List.set_cons_succ, List.set_cons_zero]; rfl)))
    | ((with_reducible apply S_load_epr); (case hx => rfl); (case hp => rfl); (case hs => (simp only [aput, List.set_cons_succ, List.set_cons_zero]; rfl)))
    | ((with_reducible apply S_load_byte); (case hx => rfl); (case hlt => (first | (constructor <;> omega) | omega | (simp; done) | (simp; omega))); (case hs => (simp only [aput, List.set_cons_succ, List.set_cons_zero]; rfl)))
    | ((with_reducible apply U_store); (case hx => rfl); (case hy => rfl); (case ho => rfl); (case hf => rfl); (case hc => rfl); (case hob => rfl); (case hs => (simp only [aput, List.set_cons_succ, List.set_cons_zero]; rfl)))
    | ((with_reducible apply U_store_all); (case hx => rfl); (case hy => rfl); (case ho => rfl); (case hf => rfl); (case hl => rfl); (case hle => rfl); (case hob => rfl); (case hs => (simp only [aput, List.set_cons_succ, List.set_cons_zero]; rfl)))
    | ((with_reducible apply S_field); (case hx => rfl); (case hp => rfl); (case hs => (simp only [aput, List.set_cons_succ, List.set_cons_zero]; rfl)))
    | ((with_reducible apply S_extract); (case hx => rfl); (case hi => rfl); (case hs => (simp only [aput, List.set_cons_succ, List.set_cons_zero]; rfl)))
    | ((with_reducible apply S_iface); (case hx => rfl); (case hs => (simp only [aput, List.set_cons_succ, List.set_cons_zero]; rfl)))
    | ((with_reducible apply AOPS_makeFunc); (case h1 => rfl); (case h2 => rfl); (case hs => (simp only [aput, List.set_cons_succ, List.set_cons_zero]; rfl)))
    | ((with_reducible apply AOPS_nilCheck); (case hx => rfl); (case hs => (simp only [aput, List.set_cons_succ, List.set_cons_zero]; rfl)))
    | ((with_reducible apply S_lit); (case hp => rfl); (case ho => (first | rfl | (simp only [List.all_cons, List.all_nil, Bool.and_true, Bool.and_self, bvA_one, sl_one, nils_one, str_one, d1, d2, d3]; done) | (simp [AV.one, d1, d2, d3]; done))); (case hl => rfl); (case hzl => rfl); (case hb => decide); (case hs => (simp only [aput, List.set_cons_succ, List.set_cons_zero]; rfl)))
    | ((with_reducible apply S_build); (case hz => rfl); (case hf => rfl); (case hs => (simp only [aput, List.set_cons_succ, List.set_cons_zero]; rfl)))
    | ((with_reducible apply T_append_full); (case hx => rfl); (case hy => rfl); (case hS => (first | exact SrcOk_bytes inferInstance (by first | rfl | assumption | (simp; done) | omega) | exact SrcOk_sl inferInstance (by simp) (by first | rfl | (simp only [List.all_cons, List.all_nil, bvA_one, Bool.and_self]; done) | simp [AV.one, bvA_ones]) | exact SrcOk_nils inferInstance | exact SrcOk_str inferInstance | exact SrcOk_isB inferInstance (by assumption))); (case hl => (first | rfl | (simp; done))); (case hb => (first | (constructor <;> omega) | omega | (simp; done) | (simp; omega))); (case hs => (simp only [aput, List.set_cons_succ, List.set_cons_zero]; rfl)))
    | ((with_reducible apply T_append_nils); (case hx => rfl); (case hy => rfl); (case hS => (first | exact SrcOk_bytes inferInstance (by first | rfl | assumption | (simp; done) | omega) | exact SrcOk_sl inferInstance (by simp) (by first | rfl | (simp only [List.all_cons, List.all_nil, bvA_one, Bool.and_self]; done) | simp [AV.one, bvA_ones]) | exact SrcOk_nils inferInstance | exact SrcOk_str inferInstance | exact SrcOk_isB inferInstance (by assumption))); (case hb => (first | (constructor <;> omega) | omega | (simp; done) | (simp; omega))); (case hs => (simp only [aput, List.set_cons_succ, List.set_cons_zero]; rfl)))
    | ((with_reducible apply U_append_tok); (case hx => rfl); (case hy => rfl); (case htk => (first | rfl | (simp [alook]; done))); (case hS => (first | exact SrcOk_bytes inferInstance (by first | rfl | assumption | (simp; done) | omega) | exact SrcOk_sl inferInstance (by simp) (by first | rfl | (simp only [List.all_cons, List.all_nil, bvA_one, Bool.and_self]; done) | simp [AV.one, bvA_ones]) | exact SrcOk_nils inferInstance | exact SrcOk_str inferInstance | exact SrcOk_isB inferInstance (by assumption))); (case hb => (first | (constructor <;> omega) | omega | (simp; done) | (simp; omega))); (case ht => (first | rfl | (simp only [asetF, if_true]; rfl))); (case hs => (simp only [aput, List.set_cons_succ, List.set_cons_zero]; rfl)))
    | ((with_reducible apply S_slice8_lh); (case hx => rfl); (case hy => rfl); (case hz => rfl); (case hl => rfl); (case hh => rfl); (case hlm => (first | (constructor <;> omega) | omega | (simp; done) | (simp; omega))); (case hs => (simp only [aput, List.set_cons_succ, List.set_cons_zero]; rfl)))
    | ((with_reducible apply S_slice8_h); (case hx => rfl); (case hz => rfl); (case hh => rfl); (case hlm => (first | (constructor <;> omega) | omega | (simp; done) | (simp; omega))); (case hs => (simp only [aput, List.set_cons_succ, List.set_cons_zero]; rfl)))
    | ((with_reducible apply S_slice8_l); (case hx => rfl); (case hy => rfl); (case hl => rfl); (case hlm => (first | (constructor <;> omega) | omega | (simp; done) | (simp; omega))); (case hs => (simp only [aput, List.set_cons_succ, List.set_cons_zero]; rfl)))
    | ((with_reducible apply AOPS_string); (case hx => rfl); (case hb => rfl); (case hl => (first | rfl | with_reducible assumption | (simp; done) | (simp; omega) | omega)); (case hs => (simp only [aput, List.set_cons_succ, List.set_cons_zero]; rfl)))
    | ((with_reducible apply AOPS_string_nils); (case hx => rfl); (case hs => (simp only [aput, List.set_cons_succ, List.set_cons_zero]; rfl)))
    | ((with_reducible apply S_string_isB); (case hx => rfl); (case hb => assumption); (case hs => (simp only [aput, List.set_cons_succ, List.set_cons_zero]; rfl)))
    | ((with_reducible apply AOPS_bytes); (case hx => rfl); (case hs => (simp only [aput, List.set_cons_succ, List.set_cons_zero]; rfl)))
    | ((with_reducible apply S_indexAddr); (case hx => rfl); (case hy => rfl); (case hj => rfl); (case hi => (first | (constructor <;> omega) | omega | (simp; done) | (simp; omega))); (case ho => (first | (simp; rfl) | rfl)); (case hs => (simp only [aput, List.set_cons_succ, List.set_cons_zero]; rfl)))
    | ((with_reducible apply S_indexAddr_isB); (case hx => rfl); (case hb => assumption); (case hy => rfl); (case hj => rfl); (case hi => (first | (constructor <;> omega) | omega | (simp; done) | (simp; omega))); (case hs => (simp only [aput, List.set_cons_succ, List.set_cons_zero]; rfl)))
    | ((with_reducible apply AOPS_indexAddr); (case hx => rfl); (case hy => rfl); (case hi => (first | (constructor <;> omega) | omega | (simp; done) | (simp; omega))); (case hs => (simp only [aput, List.set_cons_succ, List.set_cons_zero]; rfl)))
    | ((with_reducible apply AOPS_indexAddr_row); (case hx => rfl); (case hy => rfl); (case hi => (first | (constructor <;> omega) | omega | (simp; done) | (simp; omega))); (case hs => (simp only [aput, List.set_cons_succ, List.set_cons_zero]; rfl)))
    | ((with_reducible apply AOPS_indexAddr_arr); (case hx => rfl); (case hy => rfl); (case hi => (first | (constructor <;> omega) | omega | (simp; done) | (simp; omega))); (case hs => (simp only [aput, List.set_cons_succ, List.set_cons_zero]; rfl)))
    | ((with_reducible apply T_make1); (case hx => rfl); (case hy => rfl); (case hi => rfl); (case hj => rfl); (case hb => (first | (constructor <;> omega) | omega | (simp; done) | (simp; omega))); (case hv => rfl); (case hz => rfl); (case hs => (simp only [aput, List.set_cons_succ, List.set_cons_zero]; rfl)))
    | ((with_reducible apply T_make); (case hx => rfl); (case hy => rfl); (case hi => rfl); (case hj => rfl); (case hb => (first | (constructor <;> omega) | omega | (simp; done) | (simp; omega))); (case hzl => rfl); (case hz => rfl); (case hs => (simp only [aput, List.set_cons_succ, List.set_cons_zero]; rfl)))
    | ((with_reducible apply S_call_val (g := 15)); (case hf => rfl); (case ha => rfl); (case h => exact anchor2_val); (case hc => exact (fun vs w => by kernel_rfl)); (case hs => (simp only [aput, List.set_cons_succ, List.set_cons_zero]; rfl)))
    | ((with_reducible apply S_call_tok (g := 18)); (case hf => rfl); (case ha => rfl); (case h => exact (rsum_tok (msg := key) (.mk_ _ _) (by omega))); (case hc => exact (fun vs w => by kernel_rfl)); (case hs => (simp only [aput, List.set_cons_succ, List.set_cons_zero]; rfl)))
    | ((with_reducible apply S_call_val (g := 16)); (case hf => rfl); (case ha => rfl); (case h => exact (code_val (key := key) (ls := [m]) (.mk_ _ _) (.cons (.mk_ _ _) .nil) rfl (by omega) (by simp; omega))); (case hc => exact (fun vs w => by kernel_rfl)); (case hs => (simp only [aput, List.set_cons_succ, List.set_cons_zero]; rfl)))
    | ((with_reducible apply S_call_val (g := 16)); (case hf => rfl); (case ha => rfl); (case h => exact (code_val (key := sumB key) (ls := [m]) (IsB.mk' _ _ (sumB_length _)) (.cons (.mk_ _ _) .nil) rfl (by simp only [sumB_length]; omega) (by simp; omega))); (case hc => exact (fun vs w => by kernel_rfl)); (case hs => (simp only [aput, List.set_cons_succ, List.set_cons_zero]; rfl)))
    | with_reducible refine ATK_nil ?_
    | with_reducible refine AAnyQ_normal ?_
    | ((with_reducible apply ATK_guard_yes); (case hy => rfl); (case hb => (first | with_reducible assumption | with_reducible rfl | (simp only [d1, d2, d3]; done) | (simp only [d1, d2, d3]; omega) | (simp [d1, d2, d3]; done) | (simp; omega))))
    | ((with_reducible apply ATK_guard_no); (case hy => rfl); (case hb => (first | with_reducible assumption | with_reducible rfl | (simp only [d1, d2, d3]; done) | (simp only [d1, d2, d3]; omega) | (simp [d1, d2, d3]; done) | (simp; omega))); (case hs => (simp only [aput, List.set_cons_succ, List.set_cons_zero]; rfl)))
    | ((with_reducible apply ATK_guard_und); (case hy => rfl); (case hs => (simp only [aput, List.set_cons_succ, List.set_cons_zero]; rfl)))
    | ((with_reducible apply TS_move); (case hx => rfl); (case hs => (simp only [aput, List.set_cons_succ, List.set_cons_zero]; rfl)))
    | ((with_reducible apply TS_assign); (case hx => rfl); (case hs => (simp only [aput, List.set_cons_succ, List.set_cons_zero]; rfl)))
    | ((with_reducible apply TS_pick_t); (case hc => rfl); (case hb => (first | with_reducible assumption | with_reducible rfl | (simp only [d1, d2, d3]; done) | (simp only [d1, d2, d3]; omega) | (simp [d1, d2, d3]; done) | (simp; omega))); (case hx => rfl); (case hs => (simp only [aput, List.set_cons_succ, List.set_cons_zero]; rfl)))
    | ((with_reducible apply TS_pick_f); (case hc => rfl); (case hb => (first | with_reducible assumption | with_reducible rfl | (simp only [d1, d2, d3]; done) | (simp only [d1, d2, d3]; omega) | (simp [d1, d2, d3]; done) | (simp; omega))); (case hx => rfl); (case hs => (simp only [aput, List.set_cons_succ, List.set_cons_zero]; rfl)))
    | ((with_reducible apply ATK_not); (case hx => rfl); (case hs => (simp only [aput, List.set_cons_succ, List.set_cons_zero]; rfl)))
    | ((with_reducible apply ATK_len_sl); (case hx => rfl); (case hs => (simp only [aput, List.set_cons_succ, List.set_cons_zero]; rfl)))
    | ((with_reducible apply ATK_len_nils); (case hx => rfl); (case hs => (simp only [aput, List.set_cons_succ, List.set_cons_zero]; rfl)))
    | ((with_reducible apply ATK_len_row); (case hx => rfl); (case hs => (simp only [aput, List.set_cons_succ, List.set_cons_zero]; rfl)))
    | ((with_reducible apply ATK_len_str); (case hx => rfl); (case hs => (simp only [aput, List.set_cons_succ, List.set_cons_zero]; rfl)))
    | ((with_reducible apply TS_len_isB); (case hx => rfl); (case hb => assumption); (case hs => (simp only [aput, List.set_cons_succ, List.set_cons_zero]; rfl)))
    | ((with_reducible apply TS_inc8); (case hx => rfl); (case hy => rfl); (case hs => (simp only [aput, List.set_cons_succ, List.set_cons_zero]; rfl)))
    | ((with_reducible apply TS_mul); (case hx => rfl); (case hy => rfl); (case hb => (first | (constructor <;> omega) | omega | (simp; done) | (simp; omega))); (case hs => (simp only [aput, List.set_cons_succ, List.set_cons_zero]; rfl)))
    | ((with_reducible apply TS_add); (case hx => rfl); (case hy => rfl); (case hb => (first | (constructor <;> omega) | omega | (simp; done) | (simp; omega))); (case hs => (simp only [aput, List.set_cons_succ, List.set_cons_zero]; rfl)))
    | ((with_reducible apply TS_sub); (case hx => rfl); (case hy => rfl); (case hb => (first | (constructor <;> omega) | omega | (simp; done) | (simp; omega))); (case hs => (simp only [aput, List.set_cons_succ, List.set_cons_zero]; rfl)))
    | ((with_reducible apply ATK_shr); (case hx => rfl); (case hy => rfl); (case h0 => (first | decide | (constructor <;> simp <;> omega))); (case hs => (simp only [aput, List.set_cons_succ, List.set_cons_zero]; rfl)))
    | ((with_reducible apply ATK_shl); (case hx => rfl); (case hy => rfl); (case h0 => (first | decide | (constructor <;> simp <;> omega))); (case hs => (simp only [aput, List.set_cons_succ, List.set_cons_zero]; rfl)))
    | ((with_reducible apply TS_quo); (case hx => rfl); (case hy => rfl); (case hb => (first | (refine ⟨?_, ?_, ?_⟩ <;> omega) | (refine ⟨?_, ?_, ?_⟩ <;> simp <;> omega))); (case hs => (simp only [aput, List.set_cons_succ, List.set_cons_zero]; rfl)))
    | ((with_reducible apply TS_rem); (case hx => rfl); (case hy => rfl); (case hb => (first | (constructor <;> omega) | omega | (simp; done) | (simp; omega))); (case hs => (simp only [aput, List.set_cons_succ, List.set_cons_zero]; rfl)))
    | ((with_reducible apply TS_min); (case hx => rfl); (case hy => rfl); (case hs => (simp only [aput, List.set_cons_succ, List.set_cons_zero]; rfl)))
    | ((with_reducible apply TS_max); (case hx => rfl); (case hy => rfl); (case hs => (simp only [aput, List.set_cons_succ, List.set_cons_zero]; rfl)))
    | ((with_reducible apply TS_xor8); (case hx => rfl); (case hy => rfl); (case hs => (simp only [aput, List.set_cons_succ, List.set_cons_zero]; rfl)))
    | ((with_reducible apply TS_eq8); (case hx => rfl); (case hy => rfl); (case hs => (simp only [aput, List.set_cons_succ, List.set_cons_zero]; rfl)))
    | ((with_reducible apply TS_ne8); (case hx => rfl); (case hy => rfl); (case hs => (simp only [aput, List.set_cons_succ, List.set_cons_zero]; rfl)))
    | ((with_reducible apply TS_bin); (case hx => rfl); (case hy => rfl); (case ho => rfl); (case hs => (simp only [aput, List.set_cons_succ, List.set_cons_zero]; rfl)))
    | ((with_reducible apply ATK_str); (case hx => rfl); (case hy => rfl); (case ho => rfl); (case hs => (simp only [aput, List.set_cons_succ, List.set_cons_zero]; rfl)))
    | ((with_reducible apply ATK_beq); (case hx => rfl); (case hy => rfl); (case hs => (simp only [aput, List.set_cons_succ, List.set_cons_zero]; rfl)))
    | ((with_reducible apply ATK_bne); (case hx => rfl); (case hy => rfl); (case hs => (simp only [aput, List.set_cons_succ, List.set_cons_zero]; rfl)))
    | ((with_reducible apply TS_conv_same); (case hx => rfl); (case hb => (first | (constructor <;> omega) | omega | (simp; done) | (simp; omega))); (case hs => (simp only [aput, List.set_cons_succ, List.set_cons_zero]; rfl)))
    | ((with_reducible apply TS_conv_u8); (case hx => rfl); (case hs => (simp only [aput, List.set_cons_succ, List.set_cons_zero]; rfl)))
    | ((with_reducible apply TS_conv_byte); (case hx => rfl); (case hs => (simp only [aput, List.set_cons_succ, List.set_cons_zero]; rfl)))
    | ((with_reducible apply ATK_conv); (case hx => rfl); (case hs => (simp only [aput, List.set_cons_succ, List.set_cons_zero]; rfl)))
    | ((with_reducible apply ATK_fieldAddr); (case hx => rfl); (case hs => (simp only [aput, List.set_cons_succ, List.set_cons_zero]; rfl)))
    | ((with_reducible apply ATK_fieldAddr_epr); (case hx => rfl); (case hs => (simp only [aput, List.set_cons_succ, List.set_cons_zero]; rfl)))
    | ((with_reducible apply TS_load_epr_sub); (case hx => rfl); (case hp => rfl); (case hs => (simp only [aput, List.set_cons_succ, List.set_cons_zero]; rfl)))
    | ((with_reducible apply TS_load_epr); (case hx => rfl); (case hp => rfl); (case hs => (simp only [aput, List.set_cons_succ, List.set_cons_zero]; rfl)))
    | ((with_reducible apply TS_load_byte); (case hx => rfl); (case hlt => (first | (constructor <;> omega) | omega | (simp; done) | (simp; omega))); (case hs => (simp only [aput, List.set_cons_succ, List.set_cons_zero]; rfl)))
    | ((with_reducible apply TS_field); (case hx => rfl); (case hp => rfl); (case hs => (simp only [aput, List.set_cons_succ, List.set_cons_zero]; rfl)))
    | ((with_reducible apply TS_extract); (case hx => rfl); (case hi => rfl); (case hs => (simp only [aput, List.set_cons_succ, List.set_cons_zero]; rfl)))
    | ((with_reducible apply TS_iface); (case hx => rfl); (case hs => (simp only [aput, List.set_cons_succ, List.set_cons_zero]; rfl)))
    | ((with_reducible apply ATK_makeFunc); (case h1 => rfl); (case h2 => rfl); (case hs => (simp only [aput, List.set_cons_succ, List.set_cons_zero]; rfl)))
    | ((with_reducible apply ATK_nilCheck); (case hx => rfl); (case hs => (simp only [aput, List.set_cons_succ, List.set_cons_zero]; rfl)))
    | ((with_reducible apply TS_build); (case hz => rfl); (case hf => rfl); (case hs => (simp only [aput, List.set_cons_succ, List.set_cons_zero]; rfl)))
    | ((with_reducible apply TS_slice8_lh); (case hx => rfl); (case hy => rfl); (case hz => rfl); (case hl => rfl); (case hh => rfl); (case hlm => (first | (constructor <;> omega) | omega | (simp; done) | (simp; omega))); (case hs => (simp only [aput, List.set_cons_succ, List.set_cons_zero]; rfl)))
    | ((with_reducible apply TS_slice8_h); (case hx => rfl); (case hz => rfl); (case hh => rfl); (case hlm => (first | (constructor <;> omega) | omega | (simp; done) | (simp; omega))); (case hs => (simp only [aput, List.set_cons_succ, List.set_cons_zero]; rfl)))
    | ((with_reducible apply TS_slice8_l); (case hx => rfl); (case hy => rfl); (case hl => rfl); (case hlm => (first | (constructor <;> omega) | omega | (simp; done) | (simp; omega))); (case hs => (simp only [aput, List.set_cons_succ, List.set_cons_zero]; rfl)))
    | ((with_reducible apply ATK_string); (case hx => rfl); (case hb => rfl); (case hl => (first | rfl | with_reducible assumption | (simp; done) | (simp; omega) | omega)); (case hs => (simp only [aput, List.set_cons_succ, List.set_cons_zero]; rfl)))
    | ((with_reducible apply ATK_string_nils); (case hx => rfl); (case hs => (simp only [aput, List.set_cons_succ, List.set_cons_zero]; rfl)))
    | ((with_reducible apply TS_string_isB); (case hx => rfl); (case hb => assumption); (case hs => (simp only [aput, List.set_cons_succ, List.set_cons_zero]; rfl)))
    | ((with_reducible apply TS_indexAddr); (case hx => rfl); (case hy => rfl); (case hj => rfl); (case hi => (first | (constructor <;> omega) | omega | (simp; done) | (simp; omega))); (case ho => (first | (simp; rfl) | rfl)); (case hs => (simp only [aput, List.set_cons_succ, List.set_cons_zero]; rfl)))
    | ((with_reducible apply TS_indexAddr_isB); (case hx => rfl); (case hb => assumption); (case hy => rfl); (case hj => rfl); (case hi => (first | (constructor <;> omega) | omega | (simp; done) | (simp; omega))); (case hs => (simp only [aput, List.set_cons_succ, List.set_cons_zero]; rfl)))
    | ((with_reducible apply ATK_indexAddr); (case hx => rfl); (case hy => rfl); (case hi => (first | (constructor <;> omega) | omega | (simp; done) | (simp; omega))); (case hs => (simp only [aput, List.set_cons_succ, List.set_cons_zero]; rfl)))
    | ((with_reducible apply ATK_indexAddr_row); (case hx => rfl); (case hy => rfl); (case hi => (first | (constructor <;> omega) | omega | (simp; done) | (simp; omega))); (case hs => (simp only [aput, List.set_cons_succ, List.set_cons_zero]; rfl)))
    | ((with_reducible apply ATK_indexAddr_arr); (case hx => rfl); (case hy => rfl); (case hi => (first | (constructor <;> omega) | omega | (simp; done) | (simp; omega))); (case hs => (simp only [aput, List.set_cons_succ, List.set_cons_zero]; rfl)))
    | ((with_reducible apply AWP_draw (n := 13)); (case hm => kernel_rfl); (case hn => rfl))
    | ((with_reducible apply AANY_done); (case hr => decide +kernel))
    | ((with_reducible apply AANY_take (i := 0)); (case hn => rfl); (case hr => decide +kernel); (case ho => rfl); (case hs => kernel_rfl); (case hf => decide +kernel))
    | ((with_reducible apply AANY_take (i := 1)); (case hn => rfl); (case hr => decide +kernel); (case ho => rfl); (case hs => kernel_rfl); (case hf => decide +kernel))
    | ((with_reducible apply AANY_take (i := 4)); (case hn => rfl); (case hr => decide +kernel); (case ho => rfl); (case hs => kernel_rfl); (case hf => decide +kernel))
    | ((with_reducible apply AANY_take (i := 5)); (case hn => rfl); (case hr => decide +kernel); (case ho => rfl); (case hs => kernel_rfl); (case hf => decide +kernel))
    | ((with_reducible apply AANY_take (i := 7)); (case hn => rfl); (case hr => decide +kernel); (case ho => rfl); (case hs => kernel_rfl); (case hf => decide +kernel))
    | ((with_reducible apply AANY_take (i := 10)); (case hn => rfl); (case hr => decide +kernel); (case ho => rfl); (case hs => kernel_rfl); (case hf => decide +kernel))
    | ((with_reducible apply AANY_take (i := 11)); (case hn => rfl); (case hr => decide +kernel); (case ho => rfl); (case hs => kernel_rfl); (case hf => decide +kernel))
    | ((with_reducible apply AANY_take (i := 12)); (case hn => rfl); (case hr => decide +kernel); (case ho => rfl); (case hs => kernel_rfl); (case hf => decide +kernel))
    | ((with_reducible apply AANY_step [2, 3, 6, 8, 9]); (case hn => rfl); (case hr => decide +kernel); (case hne => decide +kernel))
    | with_reducible exact ACands_nil
    | with_reducible refine ACands_cons ?_ ?_
    | ((with_reducible refine ACand_no ?_); decide +kernel)
    | ((with_reducible apply ACand_yes); (case ho => rfl))
    | fail)
  all_goals
    refine ARet_ret rfl (.tmpO rfl .nil) ?_
    simp [aone, macB_sum _ _ (show 64 < key.length by omega)]
theorem MacLong_walk (w : World) (Akey : Option Addr) (nkey ckey : Nat) (key : List UInt8) (hkey : RBytes w [.slice Akey nkey ckey] key) (Am : Option Addr) (nm cm : Nat) (m : List UInt8) (hm : RBytes w [.slice Am nm cm] m) :
    Calls Try.prog 4 #[.slice Akey nkey ckey, .slice Am nm cm] w (Tells w true) := (MacLong_law key m).tells (.cons hkey.reps (.cons hm.reps .nil))
end Go.Proofs.Ytdekfobcdmlelaa
