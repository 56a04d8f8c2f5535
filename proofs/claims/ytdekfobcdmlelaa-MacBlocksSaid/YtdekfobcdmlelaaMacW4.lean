/- MacBlocks. -/
import Derived.Test.YtdekfobcdmlelaaMacW3
namespace Go.Proofs.Ytdekfobcdmlelaa
open Go.RowKit
set_option linter.unusedVariables false
set_option linter.unusedSimpArgs false
set_option maxRecDepth 10000
set_option maxHeartbeats 4000000
variable {M : MM} {w : World}
theorem block_of (L B : List UInt8) (i N : Nat) (h3 : (L.take (32 * (i + 1))).drop (32 * i) = B) (h : 32 * i < N) : ((L.take N).drop (32 * i)).take (min (32 * i + 32) N - 32 * i) = B.take (min 32 (N - 32 * i)) := by
  rw [← h3, List.drop_take, List.take_take, List.drop_take, List.take_take]
  congr 1
  omega
theorem exN_block (key info : List UInt8) {N i : Nat} (hi : i < 255) (h : 32 * i < N) : ((exN key info N).drop (32 * i)).take (min (32 * i + 32) N - 32 * i) = (exB key info (i + 1)).take (min 32 (N - 32 * i)) := by
  have h1 : (exAll key info 255).take (32 * (i + 1)) = exAll key info (i + 1) := by
    have h0 := exAll_take key info (i + 1) 255 (32 * (i + 1)) (Nat.le_refl _) (by omega)
    have h9 : (exAll key info (i + 1)).length ≤ 32 * (i + 1) := Nat.le_of_eq (exAll_length _ _ _)
    exact h0.trans (List.take_of_length_le h9)
  have h2 : (exAll key info (i + 1)).drop (32 * i) = exB key info (i + 1) := List.drop_left' (exAll_length key info i)
  exact block_of _ _ i N ((congrArg (List.drop (32 * i)) h1).trans h2) h
theorem exN_block_length (key info : List UInt8) {N i : Nat} (hN : N ≤ 8160) (h : 32 * i < N) : (((exN key info N).drop (32 * i)).take (min (32 * i + 32) N - 32 * i)).length = min (32 * i + 32) N - 32 * i := by
  rw [List.length_take, List.length_drop, exN_length _ _ hN]
  omega
theorem MacBlocks_law (key info : List UInt8) (n : Int) : ACalls Try.prog 8 [.sl .none (key.map bvA) key.length, .sl .none (info.map bvA) info.length, .int .i64 n] ⟨[], [], 0⟩ (fun rv _ => rv = .bool true) := by
  refine ACalls_body Try.func8 rfl rfl ?_
  simp only [Try.ntmps8, List.length_cons, List.length_nil, Nat.reduceAdd, Nat.reduceSub, List.replicate_succ, List.replicate_zero, List.cons_append, List.nil_append]
  by_cases h1 : 100 < key.length
  · have d1 : decide ((key.length : Int) > 100) = true := by simp; omega
    repeat' (first
      | with_reducible refine AWP_seq ?_
      | with_reducible refine AWP_region ?_
      | with_reducible refine AOPS_nil ?_
      | with_reducible refine AThen_normal ?_
      | with_reducible refine AThen_ret ?_
      | with_reducible refine AThen_exit ?_
      | with_reducible refine ABlock_normal ?_
      | with_reducible refine ABlock_ret ?_
      | with_reducible refine ABlock_exit ?_
      | ((with_reducible apply ABlock_other); (case hij => rfl))
      | with_reducible refine ARound_ret ?_
      | with_reducible refine ARound_exit ?_
      | with_reducible refine ANext_normal ?_
      | with_reducible refine ANext_ret ?_
      | with_reducible refine ANext_exit ?_
      | with_reducible refine ARounds_step ?_
      | with_reducible refine ALoopQ_ret ?_
      | with_reducible refine ALoopQ_exit ?_
      | with_reducible refine AWP_block ?_
      | with_reducible refine AWP_skip ?_
      | with_reducible refine AWP_ret ?_
      | with_reducible refine AWP_exit ?_
      | ((with_reducible apply AWP_cond_t); (case hc => rfl); (case hb => (first | with_reducible assumption | with_reducible rfl | (simp only [d1]; done) | (simp; done) | (simp; omega))))
      | ((with_reducible apply AWP_cond_f); (case hc => rfl); (case hb => (first | with_reducible assumption | with_reducible rfl | (simp only [d1]; done) | (simp; done) | (simp; omega))))
      | ((with_reducible apply AOPS_guard_yes); (case hy => rfl); (case hb => (first | with_reducible assumption | with_reducible rfl | (simp only [d1]; done) | (simp; done) | (simp; omega))))
      | ((with_reducible apply AOPS_guard_no); (case hy => rfl); (case hb => (first | with_reducible assumption | with_reducible rfl | (simp only [d1]; done) | (simp; done) | (simp; omega))); (case hs => (simp only [aput, List.set_cons_succ, List.set_cons_zero]; rfl)))
      | ((with_reducible apply AOPS_guard_und); (case hy => rfl); (case hs => (simp only [aput, List.set_cons_succ, List.set_cons_zero]; rfl)))
      | ((with_reducible apply S_move); (case hx => rfl); (case hs => (simp only [aput, List.set_cons_succ, List.set_cons_zero]; rfl)))
      | ((with_reducible apply S_assign); (case hx => rfl); (case hs => (simp only [aput, List.set_cons_succ, List.set_cons_zero]; rfl)))
      | ((with_reducible apply S_pick_t); (case hc => rfl); (case hb => (first | with_reducible assumption | with_reducible rfl | (simp only [d1]; done) | (simp; done) | (simp; omega))); (case hx => rfl); (case hs => (simp only [aput, List.set_cons_succ, List.set_cons_zero]; rfl)))
      | ((with_reducible apply S_pick_f); (case hc => rfl); (case hb => (first | with_reducible assumption | with_reducible rfl | (simp only [d1]; done) | (simp; done) | (simp; omega))); (case hx => rfl); (case hs => (simp only [aput, List.set_cons_succ, List.set_cons_zero]; rfl)))
      | ((with_reducible apply AOPS_not); (case hx => rfl); (case hs => (simp only [aput, List.set_cons_succ, List.set_cons_zero]; rfl)))
      | ((with_reducible apply AOPS_len_sl); (case hx => rfl); (case hs => (simp only [aput, List.set_cons_succ, List.set_cons_zero]; rfl)))
      | ((with_reducible apply AOPS_len_nils); (case hx => rfl); (case hs => (simp only [aput, List.set_cons_succ, List.set_cons_zero]; rfl)))
      | ((with_reducible apply AOPS_len_row); (case hx => rfl); (case hs => (simp only [aput, List.set_cons_succ, List.set_cons_zero]; rfl)))
      | ((with_reducible apply AOPS_len_str); (case hx => rfl); (case hs => (simp only [aput, List.set_cons_succ, List.set_cons_zero]; rfl)))
      | ((with_reducible apply S_len_isB); (case hx => rfl); (case hb => assumption); (case hs => (simp only [aput, List.set_cons_succ, List.set_cons_zero]; rfl)))
      | ((with_reducible apply S_inc8); (case hx => rfl); (case hy => rfl); (case hs => (simp only [aput, List.set_cons_succ, List.set_cons_zero]; rfl)))
      | ((with_reducible apply S_mul); (case hx => rfl); (case hy => rfl); (case hb => (first | (constructor <;> omega) | omega | (simp; done) | (simp; omega))); (case hs => (simp only [aput, List.set_cons_succ, List.set_cons_zero]; rfl)))
      | ((with_reducible apply S_add); (case hx => rfl); (case hy => rfl); (case hb => (first | (constructor <;> omega) | omega | (simp; done) | (simp; omega))); (case hs => (simp only [aput, List.set_cons_succ, List.set_cons_zero]; rfl)))
      | ((with_reducible apply S_sub); (case hx => rfl); (case hy => rfl); (case hb => (first | (constructor <;> omega) | omega | (simp; done) | (simp; omega))); (case hs => (simp only [aput, List.set_cons_succ, List.set_cons_zero]; rfl)))
      | ((with_reducible apply S_min); (case hx => rfl); (case hy => rfl); (case hs => (simp only [aput, List.set_cons_succ, List.set_cons_zero]; rfl)))
      | ((with_reducible apply S_ne8); (case hx => rfl); (case hy => rfl); (case hs => (simp only [aput, List.set_cons_succ, List.set_cons_zero]; rfl)))
      | ((with_reducible apply S_bin); (case hx => rfl); (case hy => rfl); (case ho => rfl); (case hs => (simp only [aput, List.set_cons_succ, List.set_cons_zero]; rfl)))
      | ((with_reducible apply AOPS_str); (case hx => rfl); (case hy => rfl); (case ho => rfl); (case hs => (simp only [aput, List.set_cons_succ, List.set_cons_zero]; rfl)))
      | ((with_reducible apply AOPS_bne); (case hx => rfl); (case hy => rfl); (case hs => (simp only [aput, List.set_cons_succ, List.set_cons_zero]; rfl)))
      | ((with_reducible apply S_conv_same); (case hx => rfl); (case hb => (first | (constructor <;> omega) | omega | (simp; done) | (simp; omega))); (case hs => (simp only [aput, List.set_cons_succ, List.set_cons_zero]; rfl)))
      | ((with_reducible apply S_conv_u8); (case hx => rfl); (case hs => (simp only [aput, List.set_cons_succ, List.set_cons_zero]; rfl)))
      | ((with_reducible apply S_conv_byte); (case hx => rfl); (case hs => (simp only [aput, List.set_cons_succ, List.set_cons_zero]; rfl)))
      | ((with_reducible apply AOPS_conv); (case hx => rfl); (case hs => (simp only [aput, List.set_cons_succ, List.set_cons_zero]; rfl)))
      | ((with_reducible apply S_extract); (case hx => rfl); (case hi => rfl); (case hs => (simp only [aput, List.set_cons_succ, List.set_cons_zero]; rfl)))
      | ((with_reducible apply S_lit); (case hp => rfl); (case ho => (first | rfl | (simp only [List.all_cons, List.all_nil, Bool.and_true, Bool.and_self, bvA_one, sl_one, nils_one, str_one, d1]; done) | (simp [AV.one, d1]; done))); (case hl => rfl); (case hzl => rfl); (case hb => decide); (case hs => (simp only [aput, List.set_cons_succ, List.set_cons_zero]; rfl)))
      | ((with_reducible apply S_slice8_lh); (case hx => rfl); (case hy => rfl); (case hz => rfl); (case hl => rfl); (case hh => rfl); (case hlm => (first | (constructor <;> omega) | omega | (simp; done) | (simp; omega))); (case hs => (simp only [aput, List.set_cons_succ, List.set_cons_zero]; rfl)))
      | ((with_reducible apply S_slice8_h); (case hx => rfl); (case hz => rfl); (case hh => rfl); (case hlm => (first | (constructor <;> omega) | omega | (simp; done) | (simp; omega))); (case hs => (simp only [aput, List.set_cons_succ, List.set_cons_zero]; rfl)))
      | ((with_reducible apply S_slice8_l); (case hx => rfl); (case hy => rfl); (case hl => rfl); (case hlm => (first | (constructor <;> omega) | omega | (simp; done) | (simp; omega))); (case hs => (simp only [aput, List.set_cons_succ, List.set_cons_zero]; rfl)))
      | ((with_reducible apply AOPS_string); (case hx => rfl); (case hb => rfl); (case hl => (first | rfl | with_reducible assumption | (simp; done) | (simp; omega) | omega)); (case hs => (simp only [aput, List.set_cons_succ, List.set_cons_zero]; rfl)))
      | ((with_reducible apply AOPS_string_nils); (case hx => rfl); (case hs => (simp only [aput, List.set_cons_succ, List.set_cons_zero]; rfl)))
      | ((with_reducible apply S_string_isB); (case hx => rfl); (case hb => assumption); (case hs => (simp only [aput, List.set_cons_succ, List.set_cons_zero]; rfl)))
      | ((with_reducible apply AOPS_bytes); (case hx => rfl); (case hs => (simp only [aput, List.set_cons_succ, List.set_cons_zero]; rfl)))
      | ((with_reducible apply S_call_val (g := 15)); (case hf => rfl); (case ha => rfl); (case h => exact anchor2_val); (case hc => exact (fun vs w => by kernel_rfl)); (case hs => (simp only [aput, List.set_cons_succ, List.set_cons_zero]; rfl)))
      | fail)
    refine ARet_ret rfl (.tmpO rfl .nil) ?_
    rfl
  have d1 : decide ((key.length : Int) > 100) = false := by simp; omega
  by_cases h2 : 100 < info.length
  · have d2 : decide ((info.length : Int) > 100) = true := by simp; omega
    repeat' (first
      | with_reducible refine AWP_seq ?_
      | with_reducible refine AWP_region ?_
      | with_reducible refine AOPS_nil ?_
      | with_reducible refine AThen_normal ?_
      | with_reducible refine AThen_ret ?_
      | with_reducible refine AThen_exit ?_
      | with_reducible refine ABlock_normal ?_
      | with_reducible refine ABlock_ret ?_
      | with_reducible refine ABlock_exit ?_
      | ((with_reducible apply ABlock_other); (case hij => rfl))
      | with_reducible refine ARound_ret ?_
      | with_reducible refine ARound_exit ?_
      | with_reducible refine ANext_normal ?_
      | with_reducible refine ANext_ret ?_
      | with_reducible refine ANext_exit ?_
      | with_reducible refine ARounds_step ?_
      | with_reducible refine ALoopQ_ret ?_
      | with_reducible refine ALoopQ_exit ?_
      | with_reducible refine AWP_block ?_
      | with_reducible refine AWP_skip ?_
      | with_reducible refine AWP_ret ?_
      | with_reducible refine AWP_exit ?_
      | ((with_reducible apply AWP_cond_t); (case hc => rfl); (case hb => (first | with_reducible assumption | with_reducible rfl | (simp only [d1, d2]; done) | (simp; done) | (simp; omega))))
      | ((with_reducible apply AWP_cond_f); (case hc => rfl); (case hb => (first | with_reducible assumption | with_reducible rfl | (simp only [d1, d2]; done) | (simp; done) | (simp; omega))))
      | ((with_reducible apply AOPS_guard_yes); (case hy => rfl); (case hb => (first | with_reducible assumption | with_reducible rfl | (simp only [d1, d2]; done) | (simp; done) | (simp; omega))))
      | ((with_reducible apply AOPS_guard_no); (case hy => rfl); (case hb => (first | with_reducible assumption | with_reducible rfl | (simp only [d1, d2]; done) | (simp; done) | (simp; omega))); (case hs => (simp only [aput, List.set_cons_succ, List.set_cons_zero]; rfl)))
      | ((with_reducible apply AOPS_guard_und); (case hy => rfl); (case hs => (simp only [aput, List.set_cons_succ, List.set_cons_zero]; rfl)))
      | ((with_reducible apply S_move); (case hx => rfl); (case hs => (simp only [aput, List.set_cons_succ, List.set_cons_zero]; rfl)))
      | ((with_reducible apply S_assign); (case hx => rfl); (case hs => (simp only [aput, List.set_cons_succ, List.set_cons_zero]; rfl)))
      | ((with_reducible apply S_pick_t); (case hc => rfl); (case hb => (first | with_reducible assumption | with_reducible rfl | (simp only [d1, d2]; done) | (simp; done) | (simp; omega))); (case hx => rfl); (case hs => (simp only [aput, List.set_cons_succ, List.set_cons_zero]; rfl)))
      | ((with_reducible apply S_pick_f); (case hc => rfl); (case hb => (first | with_reducible assumption | with_reducible rfl | (simp only [d1, d2]; done) | (simp; done) | (simp; omega))); (case hx => rfl); (case hs => (simp only [aput, List.set_cons_succ, List.set_cons_zero]; rfl)))
      | ((with_reducible apply AOPS_not); (case hx => rfl); (case hs => (simp only [aput, List.set_cons_succ, List.set_cons_zero]; rfl)))
      | ((with_reducible apply AOPS_len_sl); (case hx => rfl); (case hs => (simp only [aput, List.set_cons_succ, List.set_cons_zero]; rfl)))
      | ((with_reducible apply AOPS_len_nils); (case hx => rfl); (case hs => (simp only [aput, List.set_cons_succ, List.set_cons_zero]; rfl)))
      | ((with_reducible apply AOPS_len_row); (case hx => rfl); (case hs => (simp only [aput, List.set_cons_succ, List.set_cons_zero]; rfl)))
      | ((with_reducible apply AOPS_len_str); (case hx => rfl); (case hs => (simp only [aput, List.set_cons_succ, List.set_cons_zero]; rfl)))
      | ((with_reducible apply S_len_isB); (case hx => rfl); (case hb => assumption); (case hs => (simp only [aput, List.set_cons_succ, List.set_cons_zero]; rfl)))
      | ((with_reducible apply S_inc8); (case hx => rfl); (case hy => rfl); (case hs => (simp only [aput, List.set_cons_succ, List.set_cons_zero]; rfl)))
      | ((with_reducible apply S_mul); (case hx => rfl); (case hy => rfl); (case hb => (first | (constructor <;> omega) | omega | (simp; done) | (simp; omega))); (case hs => (simp only [aput, List.set_cons_succ, List.set_cons_zero]; rfl)))
      | ((with_reducible apply S_add); (case hx => rfl); (case hy => rfl); (case hb => (first | (constructor <;> omega) | omega | (simp; done) | (simp; omega))); (case hs => (simp only [aput, List.set_cons_succ, List.set_cons_zero]; rfl)))
      | ((with_reducible apply S_sub); (case hx => rfl); (case hy => rfl); (case hb => (first | (constructor <;> omega) | omega | (simp; done) | (simp; omega))); (case hs => (simp only [aput, List.set_cons_succ, List.set_cons_zero]; rfl)))
      | ((with_reducible apply S_min); (case hx => rfl); (case hy => rfl); (case hs => (simp only [aput, List.set_cons_succ, List.set_cons_zero]; rfl)))
      | ((with_reducible apply S_ne8); (case hx => rfl); (case hy => rfl); (case hs => (simp only [aput, List.set_cons_succ, List.set_cons_zero]; rfl)))
      | ((with_reducible apply S_bin); (case hx => rfl); (case hy => rfl); (case ho => rfl); (case hs => (simp only [aput, List.set_cons_succ, List.set_cons_zero]; rfl)))
      | ((with_reducible apply AOPS_str); (case hx => rfl); (case hy => rfl); (case ho => rfl); (case hs => (simp only [aput, List.set_cons_succ, List.set_cons_zero]; rfl)))
      | ((with_reducible apply AOPS_bne); (case hx => rfl); (case hy => rfl); (case hs => (simp only [aput, List.set_cons_succ, List.set_cons_zero]; rfl)))
      | ((with_reducible apply S_conv_same); (case hx => rfl); (case hb => (first | (constructor <;> omega) | omega | (simp; done) | (simp; omega))); (case hs => (simp only [aput, List.set_cons_succ, List.set_cons_zero]; rfl)))
      | ((with_reducible apply S_conv_u8); (case hx => rfl); (case hs => (simp only [aput, List.set_cons_succ, List.set_cons_zero]; rfl)))
      | ((with_reducible apply S_conv_byte); (case hx => rfl); (case hs => (simp only [aput, List.set_cons_succ, List.set_cons_zero]; rfl)))
      | ((with_reducible apply AOPS_conv); (case hx => rfl); (case hs => (simp only [aput, List.set_cons_succ, List.set_cons_zero]; rfl)))
      | ((with_reducible apply S_extract); (case hx => rfl); (case hi => rfl); (case hs => (simp only [aput, List.set_cons_succ, List.set_cons_zero]; rfl)))
      | ((with_reducible apply S_lit); (case hp => rfl); (case ho => (first | rfl | (simp only [List.all_cons, List.all_nil, Bool.and_true, Bool.and_self, bvA_one, sl_one, nils_one, str_one, d1, d2]; done) | (simp [AV.one, d1, d2]; done))); (case hl => rfl); (case hzl => rfl); (case hb => decide); (case hs => (simp only [aput, List.set_cons_succ, List.set_cons_zero]; rfl)))
      | ((with_reducible apply S_slice8_lh); (case hx => rfl); (case hy => rfl); (case hz => rfl); (case hl => rfl); (case hh => rfl); (case hlm => (first | (constructor <;> omega) | omega | (simp; done) | (simp; omega))); (case hs => (simp only [aput, List.set_cons_succ, List.set_cons_zero]; rfl)))
      | ((with_reducible apply S_slice8_h); (case hx => rfl); (case hz => rfl); (case hh => rfl); (case hlm => (first | (constructor <;> omega) | omega | (simp; done) | (simp; omega))); (case hs => (simp only [aput, List.set_cons_succ, List.set_cons_zero]; rfl)))
      | ((with_reducible apply S_slice8_l); (case hx => rfl); (case hy => rfl); (case hl => rfl); (case hlm => (first | (constructor <;> omega) | omega | (simp; done) | (simp; omega))); (case hs => (simp only [aput, List.set_cons_succ, List.set_cons_zero]; rfl)))
      | ((with_reducible apply AOPS_string); (case hx => rfl); (case hb => rfl); (case hl => (first | rfl | with_reducible assumption | (simp; done) | (simp; omega) | omega)); (case hs => (simp only [aput, List.set_cons_succ, List.set_cons_zero]; rfl)))
      | ((with_reducible apply AOPS_string_nils); (case hx => rfl); (case hs => (simp only [aput, List.set_cons_succ, List.set_cons_zero]; rfl)))
      | ((with_reducible apply S_string_isB); (case hx => rfl); (case hb => assumption); (case hs => (simp only [aput, List.set_cons_succ, List.set_cons_zero]; rfl)))
      | ((with_reducible apply AOPS_bytes); (case hx => rfl); (case hs => (simp only [aput, List.set_cons_succ, List.set_cons_zero]; rfl)))
      | ((with_reducible apply S_call_val (g := 15)); (case hf => rfl); (case ha => rfl); (case h => exact anchor2_val); (case hc => exact (fun vs w => by kernel_rfl)); (case hs => (simp only [aput, List.set_cons_succ, List.set_cons_zero]; rfl)))
      | fail)
    refine ARet_ret rfl (.tmpO rfl .nil) ?_
    rfl
  have d2 : decide ((info.length : Int) > 100) = false := by simp; omega
  by_cases h3 : n < 0
  · have d3 : decide (n < 0) = true := by simpa using h3
    repeat' (first
      | with_reducible refine AWP_seq ?_
      | with_reducible refine AWP_region ?_
      | with_reducible refine AOPS_nil ?_
      | with_reducible refine AThen_normal ?_
      | with_reducible refine AThen_ret ?_
      | with_reducible refine AThen_exit ?_
      | with_reducible refine ABlock_normal ?_
      | with_reducible refine ABlock_ret ?_
      | with_reducible refine ABlock_exit ?_
      | ((with_reducible apply ABlock_other); (case hij => rfl))
      | with_reducible refine ARound_ret ?_
      | with_reducible refine ARound_exit ?_
      | with_reducible refine ANext_normal ?_
      | with_reducible refine ANext_ret ?_
      | with_reducible refine ANext_exit ?_
      | with_reducible refine ARounds_step ?_
      | with_reducible refine ALoopQ_ret ?_
      | with_reducible refine ALoopQ_exit ?_
      | with_reducible refine AWP_block ?_
      | with_reducible refine AWP_skip ?_
      | with_reducible refine AWP_ret ?_
      | with_reducible refine AWP_exit ?_
      | ((with_reducible apply AWP_cond_t); (case hc => rfl); (case hb => (first | with_reducible assumption | with_reducible rfl | (simp only [d1, d2, d3]; done) | (simp; done) | (simp; omega))))
      | ((with_reducible apply AWP_cond_f); (case hc => rfl); (case hb => (first | with_reducible assumption | with_reducible rfl | (simp only [d1, d2, d3]; done) | (simp; done) | (simp; omega))))
      | ((with_reducible apply AOPS_guard_yes); (case hy => rfl); (case hb => (first | with_reducible assumption | with_reducible rfl | (simp only [d1, d2, d3]; done) | (simp; done) | (simp; omega))))
      | ((with_reducible apply AOPS_guard_no); (case hy => rfl); (case hb => (first | with_reducible assumption | with_reducible rfl | (simp only [d1, d2, d3]; done) | (simp; done) | (simp; omega))); (case hs => (simp only [aput, List.set_cons_succ, List.set_cons_zero]; rfl)))
      | ((with_reducible apply AOPS_guard_und); (case hy => rfl); (case hs => (simp only [aput, List.set_cons_succ, List.set_cons_zero]; rfl)))
      | ((with_reducible apply S_move); (case hx => rfl); (case hs => (simp only [aput, List.set_cons_succ, List.set_cons_zero]; rfl)))
      | ((with_reducible apply S_assign); (case hx => rfl); (case hs => (simp only [aput, List.set_cons_succ, List.set_cons_zero]; rfl)))
      | ((with_reducible apply S_pick_t); (case hc => rfl); (case hb => (first | with_reducible assumption | with_reducible rfl | (simp only [d1, d2, d3]; done) | (simp; done) | (simp; omega))); (case hx => rfl); (case hs => (simp only [aput, List.set_cons_succ, List.set_cons_zero]; rfl)))
      | ((with_reducible apply S_pick_f); (case hc => rfl); (case hb => (first | with_reducible assumption | with_reducible rfl | (simp only [d1, d2, d3]; done) | (simp; done) | (simp; omega))); (case hx => rfl); (case hs => (simp only [aput, List.set_cons_succ, List.set_cons_zero]; rfl)))
      | ((with_reducible apply AOPS_not); (case hx => rfl); (case hs => (simp only [aput, List.set_cons_succ, List.set_cons_zero]; rfl)))
      | ((with_reducible apply AOPS_len_sl); (case hx => rfl); (case hs => (simp only [aput, List.set_cons_succ, List.set_cons_zero]; rfl)))
      | ((with_reducible apply AOPS_len_nils); (case hx => rfl); (case hs => (simp only [aput, List.set_cons_succ, List.set_cons_zero]; rfl)))
      | ((with_reducible apply AOPS_len_row); (case hx => rfl); (case hs => (simp only [aput, List.set_cons_succ, List.set_cons_zero]; rfl)))
      | ((with_reducible apply AOPS_len_str); (case hx => rfl); (case hs => (simp only [aput, List.set_cons_succ, List.set_cons_zero]; rfl)))
      | ((with_reducible apply S_len_isB); (case hx => rfl); (case hb => assumption); (case hs => (simp only [aput, List.set_cons_succ, List.set_cons_zero]; rfl)))
      | ((with_reducible apply S_inc8); (case hx => rfl); (case hy => rfl); (case hs => (simp only [aput, List.set_cons_succ, List.set_cons_zero]; rfl)))
      | ((with_reducible apply S_mul); (case hx => rfl); (case hy => rfl); (case hb => (first | (constructor <;> omega) | omega | (simp; done) | (simp; omega))); (case hs => (simp only [aput, List.set_cons_succ, List.set_cons_zero]; rfl)))
      | ((with_reducible apply S_add); (case hx => rfl); (case hy => rfl); (case hb => (first | (constructor <;> omega) | omega | (simp; done) | (simp; omega))); (case hs => (simp only [aput, List.set_cons_succ, List.set_cons_zero]; rfl)))
      | ((with_reducible apply S_sub); (case hx => rfl); (case hy => rfl); (case hb => (first | (constructor <;> omega) | omega | (simp; done) | (simp; omega))); (case hs => (simp only [aput, List.set_cons_succ, List.set_cons_zero]; rfl)))
      | ((with_reducible apply S_min); (case hx => rfl); (case hy => rfl); (case hs => (simp only [aput, List.set_cons_succ, List.set_cons_zero]; rfl)))
      | ((with_reducible apply S_ne8); (case hx => rfl); (case hy => rfl); (case hs => (simp only [aput, List.set_cons_succ, List.set_cons_zero]; rfl)))
      | ((with_reducible apply S_bin); (case hx => rfl); (case hy => rfl); (case ho => rfl); (case hs => (simp only [aput, List.set_cons_succ, List.set_cons_zero]; rfl)))
      | ((with_reducible apply AOPS_str); (case hx => rfl); (case hy => rfl); (case ho => rfl); (case hs => (simp only [aput, List.set_cons_succ, List.set_cons_zero]; rfl)))
      | ((with_reducible apply AOPS_bne); (case hx => rfl); (case hy => rfl); (case hs => (simp only [aput, List.set_cons_succ, List.set_cons_zero]; rfl)))
      | ((with_reducible apply S_conv_same); (case hx => rfl); (case hb => (first | (constructor <;> omega) | omega | (simp; done) | (simp; omega))); (case hs => (simp only [aput, List.set_cons_succ, List.set_cons_zero]; rfl)))
      | ((with_reducible apply S_conv_u8); (case hx => rfl); (case hs => (simp only [aput, List.set_cons_succ, List.set_cons_zero]; rfl)))
      | ((with_reducible apply S_conv_byte); (case hx => rfl); (case hs => (simp only [aput, List.set_cons_succ, List.set_cons_zero]; rfl)))
      | ((with_reducible apply AOPS_conv); (case hx => rfl); (case hs => (simp only [aput, List.set_cons_succ, List.set_cons_zero]; rfl)))
      | ((with_reducible apply S_extract); (case hx => rfl); (case hi => rfl); (case hs => (simp only [aput, List.set_cons_succ, List.set_cons_zero]; rfl)))
      | ((with_reducible apply S_lit); (case hp => rfl); (case ho => (first | rfl | (simp only [List.all_cons, List.all_nil, Bool.and_true, Bool.and_self, bvA_one, sl_one, nils_one, str_one, d1, d2, d3]; done) | (simp [AV.one, d1, d2, d3]; done))); (case hl => rfl); (case hzl => rfl); (case hb => decide); (case hs => (simp only [aput, List.set_cons_succ, List.set_cons_zero]; rfl)))
      | ((with_reducible apply S_slice8_lh); (case hx => rfl); (case hy => rfl); (case hz => rfl); (case hl => rfl); (case hh => rfl); (case hlm => (first | (constructor <;> omega) | omega | (simp; done) | (simp; omega))); (case hs => (simp only [aput, List.set_cons_succ, List.set_cons_zero]; rfl)))
      | ((with_reducible apply S_slice8_h); (case hx => rfl); (case hz => rfl); (case hh => rfl); (case hlm => (first | (constructor <;> omega) | omega | (simp; done) | (simp; omega))); (case hs => (simp only [aput, List.set_cons_succ, List.set_cons_zero]; rfl)))
      | ((with_reducible apply S_slice8_l); (case hx => rfl); (case hy => rfl); (case hl => rfl); (case hlm => (first | (constructor <;> omega) | omega | (simp; done) | (simp; omega))); (case hs => (simp only [aput, List.set_cons_succ, List.set_cons_zero]; rfl)))
      | ((with_reducible apply AOPS_string); (case hx => rfl); (case hb => rfl); (case hl => (first | rfl | with_reducible assumption | (simp; done) | (simp; omega) | omega)); (case hs => (simp only [aput, List.set_cons_succ, List.set_cons_zero]; rfl)))
      | ((with_reducible apply AOPS_string_nils); (case hx => rfl); (case hs => (simp only [aput, List.set_cons_succ, List.set_cons_zero]; rfl)))
      | ((with_reducible apply S_string_isB); (case hx => rfl); (case hb => assumption); (case hs => (simp only [aput, List.set_cons_succ, List.set_cons_zero]; rfl)))
      | ((with_reducible apply AOPS_bytes); (case hx => rfl); (case hs => (simp only [aput, List.set_cons_succ, List.set_cons_zero]; rfl)))
      | ((with_reducible apply S_call_val (g := 15)); (case hf => rfl); (case ha => rfl); (case h => exact anchor2_val); (case hc => exact (fun vs w => by kernel_rfl)); (case hs => (simp only [aput, List.set_cons_succ, List.set_cons_zero]; rfl)))
      | fail)
    refine ARet_ret rfl (.tmpO rfl .nil) ?_
    rfl
  have d3 : decide (n < 0) = false := by simpa using h3
  by_cases h4 : 130 < n
  · have d4 : decide (n > 130) = true := by simp; omega
    repeat' (first
      | with_reducible refine AWP_seq ?_
      | with_reducible refine AWP_region ?_
      | with_reducible refine AOPS_nil ?_
      | with_reducible refine AThen_normal ?_
      | with_reducible refine AThen_ret ?_
      | with_reducible refine AThen_exit ?_
      | with_reducible refine ABlock_normal ?_
      | with_reducible refine ABlock_ret ?_
      | with_reducible refine ABlock_exit ?_
      | ((with_reducible apply ABlock_other); (case hij => rfl))
      | with_reducible refine ARound_ret ?_
      | with_reducible refine ARound_exit ?_
      | with_reducible refine ANext_normal ?_
      | with_reducible refine ANext_ret ?_
      | with_reducible refine ANext_exit ?_
      | with_reducible refine ARounds_step ?_
      | with_reducible refine ALoopQ_ret ?_
      | with_reducible refine ALoopQ_exit ?_
      | with_reducible refine AWP_block ?_
      | with_reducible refine AWP_skip ?_
      | with_reducible refine AWP_ret ?_
      | with_reducible refine AWP_exit ?_
      | ((with_reducible apply AWP_cond_t); (case hc => rfl); (case hb => (first | with_reducible assumption | with_reducible rfl | (simp only [d1, d2, d3, d4]; done) | (simp; done) | (simp; omega))))
      | ((with_reducible apply AWP_cond_f); (case hc => rfl); (case hb => (first | with_reducible assumption | with_reducible rfl | (simp only [d1, d2, d3, d4]; done) | (simp; done) | (simp; omega))))
      | ((with_reducible apply AOPS_guard_yes); (case hy => rfl); (case hb => (first | with_reducible assumption | with_reducible rfl | (simp only [d1, d2, d3, d4]; done) | (simp; done) | (simp; omega))))
      | ((with_reducible apply AOPS_guard_no); (case hy => rfl); (case hb => (first | with_reducible assumption | with_reducible rfl | (simp only [d1, d2, d3, d4]; done) | (simp; done) | (simp; omega))); (case hs => (simp only [aput, List.set_cons_succ, List.set_cons_zero]; rfl)))
      | ((with_reducible apply AOPS_guard_und); (case hy => rfl); (case hs => (simp only [aput, List.set_cons_succ, List.set_cons_zero]; rfl)))
      | ((with_reducible apply S_move); (case hx => rfl); (case hs => (simp only [aput, List.set_cons_succ, List.set_cons_zero]; rfl)))
      | ((with_reducible apply S_assign); (case hx => rfl); (case hs => (simp only [aput, List.set_cons_succ, List.set_cons_zero]; rfl)))
      | ((with_reducible apply S_pick_t); (case hc => rfl); (case hb => (first | with_reducible assumption | with_reducible rfl | (simp only [d1, d2, d3, d4]; done) | (simp; done) | (simp; omega))); (case hx => rfl); (case hs => (simp only [aput, List.set_cons_succ, List.set_cons_zero]; rfl)))
      | ((with_reducible apply S_pick_f); (case hc => rfl); (case hb => (first | with_reducible assumption | with_reducible rfl | (simp only [d1, d2, d3, d4]; done) | (simp; done) | (simp; omega))); (case hx => rfl); (case hs => (simp only [aput, List.set_cons_succ, List.set_cons_zero]; rfl)))
      | ((with_reducible apply AOPS_not); (case hx => rfl); (case hs => (simp only [aput, List.set_cons_succ, List.set_cons_zero]; rfl)))
      | ((with_reducible apply AOPS_len_sl); (case hx => rfl); (case hs => (simp only [aput, List.set_cons_succ, List.set_cons_zero]; rfl)))
      | ((with_reducible apply AOPS_len_nils); (case hx => rfl); (case hs => (simp only [aput, List.set_cons_succ, List.set_cons_zero]; rfl)))
      | ((with_reducible apply AOPS_len_row); (case hx => rfl); (case hs => (simp only [aput, List.set_cons_succ, List.set_cons_zero]; rfl)))
      | ((with_reducible apply AOPS_len_str); (case hx => rfl); (case hs => (simp only [aput, List.set_cons_succ, List.set_cons_zero]; rfl)))
      | ((with_reducible apply S_len_isB); (case hx => rfl); (case hb => assumption); (case hs => (simp only [aput, List.set_cons_succ, List.set_cons_zero]; rfl)))
      | ((with_reducible apply S_inc8); (case hx => rfl); (case hy => rfl); (case hs => (simp only [aput, List.set_cons_succ, List.set_cons_zero]; rfl)))
      | ((with_reducible apply S_mul); (case hx => rfl); (case hy => rfl); (case hb => (first | (constructor <;> omega) | omega | (simp; done) | (simp; omega))); (case hs => (simp only [aput, List.set_cons_succ, List.set_cons_zero]; rfl)))
      | ((with_reducible apply S_add); (case hx => rfl); (case hy => rfl); (case hb => (first | (constructor <;> omega) | omega | (simp; done) | (simp; omega))); (case hs => (simp only [aput, List.set_cons_succ, List.set_cons_zero]; rfl)))
      | ((with_reducible apply S_sub); (case hx => rfl); (case hy => rfl); (case hb => (first | (constructor <;> omega) | omega | (simp; done) | (simp; omega))); (case hs => (simp only [aput, List.set_cons_succ, List.set_cons_zero]; rfl)))
      | ((with_reducible apply S_min); (case hx => rfl); (case hy => rfl); (case hs => (simp only [aput, List.set_cons_succ, List.set_cons_zero]; rfl)))
      | ((with_reducible apply S_ne8); (case hx => rfl); (case hy => rfl); (case hs => (simp only [aput, List.set_cons_succ, List.set_cons_zero]; rfl)))
      | ((with_reducible apply S_bin); (case hx => rfl); (case hy => rfl); (case ho => rfl); (case hs => (simp only [aput, List.set_cons_succ, List.set_cons_zero]; rfl)))
      | ((with_reducible apply AOPS_str); (case hx => rfl); (case hy => rfl); (case ho => rfl); (case hs => (simp only [aput, List.set_cons_succ, List.set_cons_zero]; rfl)))
      | ((with_reducible apply AOPS_bne); (case hx => rfl); (case hy => rfl); (case hs => (simp only [aput, List.set_cons_succ, List.set_cons_zero]; rfl)))
      | ((with_reducible apply S_conv_same); (case hx => rfl); (case hb => (first | (constructor <;> omega) | omega | (simp; done) | (simp; omega))); (case hs => (simp only [aput, List.set_cons_succ, List.set_cons_zero]; rfl)))
      | ((with_reducible apply S_conv_u8); (case hx => rfl); (case hs => (simp only [aput, List.set_cons_succ, List.set_cons_zero]; rfl)))
      | ((with_reducible apply S_conv_byte); (case hx => rfl); (case hs => (simp only [aput, List.set_cons_succ, List.set_cons_zero]; rfl)))
      | ((with_reducible apply AOPS_conv); (case hx => rfl); (case hs => (simp only [aput, List.set_cons_succ, List.set_cons_zero]; rfl)))
      | ((with_reducible apply S_extract); (case hx => rfl); (case hi => rfl); (case hs => (simp only [aput, List.set_cons_succ, List.set_cons_zero]; rfl)))
      | ((with_reducible apply S_lit); (case hp => rfl); (case ho => (first | rfl | (simp only [List.all_cons, List.all_nil, Bool.and_true, Bool.and_self, bvA_one, sl_one, nils_one, str_one, d1, d2, d3, d4]; done) | (simp [AV.one, d1, d2, d3, d4]; done))); (case hl => rfl); (case hzl => rfl); (case hb => decide); (case hs => (simp only [aput, List.set_cons_succ, List.set_cons_zero]; rfl)))
      | ((with_reducible apply S_slice8_lh); (case hx => rfl); (case hy => rfl); (case hz => rfl); (case hl => rfl); (case hh => rfl); (case hlm => (first | (constructor <;> omega) | omega | (simp; done) | (simp; omega))); (case hs => (simp only [aput, List.set_cons_succ, List.set_cons_zero]; rfl)))
      | ((with_reducible apply S_slice8_h); (case hx => rfl); (case hz => rfl); (case hh => rfl); (case hlm => (first | (constructor <;> omega) | omega | (simp; done) | (simp; omega))); (case hs => (simp only [aput, List.set_cons_succ, List.set_cons_zero]; rfl)))
      | ((with_reducible apply S_slice8_l); (case hx => rfl); (case hy => rfl); (case hl => rfl); (case hlm => (first | (constructor <;> omega) | omega | (simp; done) | (simp; omega))); (case hs => (simp only [aput, List.set_cons_succ, List.set_cons_zero]; rfl)))
      | ((with_reducible apply AOPS_string); (case hx => rfl); (case hb => rfl); (case hl => (first | rfl | with_reducible assumption | (simp; done) | (simp; omega) | omega)); (case hs => (simp only [aput, List.set_cons_succ, List.set_cons_zero]; rfl)))
      | ((with_reducible apply AOPS_string_nils); (case hx => rfl); (case hs => (simp only [aput, List.set_cons_succ, List.set_cons_zero]; rfl)))
      | ((with_reducible apply S_string_isB); (case hx => rfl); (case hb => assumption); (case hs => (simp only [aput, List.set_cons_succ, List.set_cons_zero]; rfl)))
      | ((with_reducible apply AOPS_bytes); (case hx => rfl); (case hs => (simp only [aput, List.set_cons_succ, List.set_cons_zero]; rfl)))
      | ((with_reducible apply S_call_val (g := 15)); (case hf => rfl); (case ha => rfl); (case h => exact anchor2_val); (case hc => exact (fun vs w => by kernel_rfl)); (case hs => (simp only [aput, List.set_cons_succ, List.set_cons_zero]; rfl)))
      | fail)
    refine ARet_ret rfl (.tmpO rfl .nil) ?_
    rfl
  have d4 : decide (n > 130) = false := by simp; omega
  obtain ⟨N, rfl⟩ := Int.eq_ofNat_of_zero_le (show 0 ≤ n by omega)
  repeat' (first
    | with_reducible refine AWP_seq ?_
    | with_reducible refine AWP_region ?_
    | with_reducible refine AOPS_nil ?_
    | with_reducible refine AThen_normal ?_
    | with_reducible refine AThen_ret ?_
    | with_reducible refine AThen_exit ?_
    | with_reducible refine ABlock_normal ?_
    | with_reducible refine ABlock_ret ?_
    | with_reducible refine ABlock_exit ?_
    | ((with_reducible apply ABlock_other); (case hij => rfl))
    | with_reducible refine ARound_ret ?_
    | with_reducible refine ARound_exit ?_
    | with_reducible refine ANext_normal ?_
    | with_reducible refine ANext_ret ?_
    | with_reducible refine ANext_exit ?_
    | with_reducible refine ARounds_step ?_
    | with_reducible refine ALoopQ_ret ?_
    | with_reducible refine ALoopQ_exit ?_
    | with_reducible refine AWP_block ?_
    | with_reducible refine AWP_skip ?_
    | with_reducible refine AWP_ret ?_
    | with_reducible refine AWP_exit ?_
    | ((with_reducible apply AWP_cond_t); (case hc => rfl); (case hb => (first | with_reducible assumption | with_reducible rfl | (simp only [d1, d2, d3, d4]; done) | (simp; done) | (simp; omega))))
    | ((with_reducible apply AWP_cond_f); (case hc => rfl); (case hb => (first | with_reducible assumption | with_reducible rfl | (simp only [d1, d2, d3, d4]; done) | (simp; done) | (simp; omega))))
    | ((with_reducible apply AOPS_guard_yes); (case hy => rfl); (case hb => (first | with_reducible assumption | with_reducible rfl | (simp only [d1, d2, d3, d4]; done) | (simp; done) | (simp; omega))))
    | ((with_reducible apply AOPS_guard_no); (case hy => rfl); (case hb => (first | with_reducible assumption | with_reducible rfl | (simp only [d1, d2, d3, d4]; done) | (simp; done) | (simp; omega))); (case hs => (simp only [aput, List.set_cons_succ, List.set_cons_zero]; rfl)))
    | ((with_reducible apply AOPS_guard_und); (case hy => rfl); (case hs => (simp only [aput, List.set_cons_succ, List.set_cons_zero]; rfl)))
    | ((with_reducible apply S_move); (case hx => rfl); (case hs => (simp only [aput, List.set_cons_succ, List.set_cons_zero]; rfl)))
    | ((with_reducible apply S_assign); (case hx => rfl); (case hs => (simp only [aput, List.set_cons_succ, List.set_cons_zero]; rfl)))
    | ((with_reducible apply S_pick_t); (case hc => rfl); (case hb => (first | with_reducible assumption | with_reducible rfl | (simp only [d1, d2, d3, d4]; done) | (simp; done) | (simp; omega))); (case hx => rfl); (case hs => (simp only [aput, List.set_cons_succ, List.set_cons_zero]; rfl)))
    | ((with_reducible apply S_pick_f); (case hc => rfl); (case hb => (first | with_reducible assumption | with_reducible rfl | (simp only [d1, d2, d3, d4]; done) | (simp; done) | (simp; omega))); (case hx => rfl); (case hs => (simp only [aput, List.set_cons_succ, List.set_cons_zero]; rfl)))
    | ((with_reducible apply AOPS_not); (case hx => rfl); (case hs => (simp only [aput, List.set_cons_succ, List.set_cons_zero]; rfl)))
    | ((with_reducible apply AOPS_len_sl); (case hx => rfl); (case hs => (simp only [aput, List.set_cons_succ, List.set_cons_zero]; rfl)))
    | ((with_reducible apply AOPS_len_nils); (case hx => rfl); (case hs => (simp only [aput, List.set_cons_succ, List.set_cons_zero]; rfl)))
    | ((with_reducible apply AOPS_len_row); (case hx => rfl); (case hs => (simp only [aput, List.set_cons_succ, List.set_cons_zero]; rfl)))
    | ((with_reducible apply AOPS_len_str); (case hx => rfl); (case hs => (simp only [aput, List.set_cons_succ, List.set_cons_zero]; rfl)))
    | ((with_reducible apply S_len_isB); (case hx => rfl); (case hb => assumption); (case hs => (simp only [aput, List.set_cons_succ, List.set_cons_zero]; rfl)))
    | ((with_reducible apply S_inc8); (case hx => rfl); (case hy => rfl); (case hs => (simp only [aput, List.set_cons_succ, List.set_cons_zero]; rfl)))
    | ((with_reducible apply S_mul); (case hx => rfl); (case hy => rfl); (case hb => (first | (constructor <;> omega) | omega | (simp; done) | (simp; omega))); (case hs => (simp only [aput, List.set_cons_succ, List.set_cons_zero]; rfl)))
    | ((with_reducible apply S_add); (case hx => rfl); (case hy => rfl); (case hb => (first | (constructor <;> omega) | omega | (simp; done) | (simp; omega))); (case hs => (simp only [aput, List.set_cons_succ, List.set_cons_zero]; rfl)))
    | ((with_reducible apply S_sub); (case hx => rfl); (case hy => rfl); (case hb => (first | (constructor <;> omega) | omega | (simp; done) | (simp; omega))); (case hs => (simp only [aput, List.set_cons_succ, List.set_cons_zero]; rfl)))
    | ((with_reducible apply S_min); (case hx => rfl); (case hy => rfl); (case hs => (simp only [aput, List.set_cons_succ, List.set_cons_zero]; rfl)))
    | ((with_reducible apply S_ne8); (case hx => rfl); (case hy => rfl); (case hs => (simp only [aput, List.set_cons_succ, List.set_cons_zero]; rfl)))
    | ((with_reducible apply S_bin); (case hx => rfl); (case hy => rfl); (case ho => rfl); (case hs => (simp only [aput, List.set_cons_succ, List.set_cons_zero]; rfl)))
    | ((with_reducible apply AOPS_str); (case hx => rfl); (case hy => rfl); (case ho => rfl); (case hs => (simp only [aput, List.set_cons_succ, List.set_cons_zero]; rfl)))
    | ((with_reducible apply AOPS_bne); (case hx => rfl); (case hy => rfl); (case hs => (simp only [aput, List.set_cons_succ, List.set_cons_zero]; rfl)))
    | ((with_reducible apply S_conv_same); (case hx => rfl); (case hb => (first | (constructor <;> omega) | omega | (simp; done) | (simp; omega))); (case hs => (simp only [aput, List.set_cons_succ, List.set_cons_zero]; rfl)))
    | ((with_reducible apply S_conv_u8); (case hx => rfl); (case hs => (simp only [aput, List.set_cons_succ, List.set_cons_zero]; rfl)))
    | ((with_reducible apply S_conv_byte); (case hx => rfl); (case hs => (simp only [aput, List.set_cons_succ, List.set_cons_zero]; rfl)))
    | ((with_reducible apply AOPS_conv); (case hx => rfl); (case hs => (simp only [aput, List.set_cons_succ, List.set_cons_zero]; rfl)))
    | ((with_reducible apply S_extract); (case hx => rfl); (case hi => rfl); (case hs => (simp only [aput, List.set_cons_succ, List.set_cons_zero]; rfl)))
    | ((with_reducible apply S_lit); (case hp => rfl); (case ho => (first | rfl | (simp only [List.all_cons, List.all_nil, Bool.and_true, Bool.and_self, bvA_one, sl_one, nils_one, str_one, d1, d2, d3, d4]; done) | (simp [AV.one, d1, d2, d3, d4]; done))); (case hl => rfl); (case hzl => rfl); (case hb => decide); (case hs => (simp only [aput, List.set_cons_succ, List.set_cons_zero]; rfl)))
    | ((with_reducible apply S_slice8_lh); (case hx => rfl); (case hy => rfl); (case hz => rfl); (case hl => rfl); (case hh => rfl); (case hlm => (first | (constructor <;> omega) | omega | (simp; done) | (simp; omega))); (case hs => (simp only [aput, List.set_cons_succ, List.set_cons_zero]; rfl)))
    | ((with_reducible apply S_slice8_h); (case hx => rfl); (case hz => rfl); (case hh => rfl); (case hlm => (first | (constructor <;> omega) | omega | (simp; done) | (simp; omega))); (case hs => (simp only [aput, List.set_cons_succ, List.set_cons_zero]; rfl)))
    | ((with_reducible apply S_slice8_l); (case hx => rfl); (case hy => rfl); (case hl => rfl); (case hlm => (first | (constructor <;> omega) | omega | (simp; done) | (simp; omega))); (case hs => (simp only [aput, List.set_cons_succ, List.set_cons_zero]; rfl)))
    | ((with_reducible apply AOPS_string); (case hx => rfl); (case hb => rfl); (case hl => (first | rfl | with_reducible assumption | (simp; done) | (simp; omega) | omega)); (case hs => (simp only [aput, List.set_cons_succ, List.set_cons_zero]; rfl)))
    | ((with_reducible apply AOPS_string_nils); (case hx => rfl); (case hs => (simp only [aput, List.set_cons_succ, List.set_cons_zero]; rfl)))
    | ((with_reducible apply S_string_isB); (case hx => rfl); (case hb => assumption); (case hs => (simp only [aput, List.set_cons_succ, List.set_cons_zero]; rfl)))
    | ((with_reducible apply AOPS_bytes); (case hx => rfl); (case hs => (simp only [aput, List.set_cons_succ, List.set_cons_zero]; rfl)))
    | ((with_reducible apply S_call_val (g := 15)); (case hf => rfl); (case ha => rfl); (case h => exact anchor2_val); (case hc => exact (fun vs w => by kernel_rfl)); (case hs => (simp only [aput, List.set_cons_succ, List.set_cons_zero]; rfl)))
    | ((with_reducible apply S_call_val (g := 21)); (case hf => rfl); (case ha => rfl); (case h => exact (expand_val (key := key) (info := info) (.mk_ _ _) (.mk_ _ _) (by omega) (by omega) (by omega))); (case hc => exact (fun vs w => by kernel_rfl)); (case hs => (simp only [aput, List.set_cons_succ, List.set_cons_zero]; rfl)))
    | fail)
  refine AWP_loopS [0, 1, 2, 6, 7, 9, 10, 44, 45, 46, 47, 48, 49, 50, 51, 52, 53, 54, 55, 56, 57, 58, 59, 60, 61, 62, 63, 64, 65, 66, 67, 68, 69, 70, 71, 72, 73, 74, 75, 76, 77] (N := Nat × AV × List AV) (fun ⟨i, al, js⟩ => [.sl .none (key.map bvA) key.length, .sl .none (info.map bvA) info.length, .int .i64 (N : Int), js.getD 0 .und, .sl .none ((exN key info N).map bvA) N, al, .int .i64 (i : Int), js.getD 1 .und, js.getD 2 .und, js.getD 3 .und, js.getD 4 .und, js.getD 5 .und, js.getD 6 .und, js.getD 7 .und, js.getD 8 .und, js.getD 9 .und, js.getD 10 .und, js.getD 11 .und, js.getD 12 .und, js.getD 13 .und, js.getD 14 .und, js.getD 15 .und, js.getD 16 .und, js.getD 17 .und, js.getD 18 .und, js.getD 19 .und, js.getD 20 .und, js.getD 21 .und, js.getD 22 .und, js.getD 23 .und, js.getD 24 .und, js.getD 25 .und, js.getD 26 .und, js.getD 27 .und, js.getD 28 .und, js.getD 29 .und, js.getD 30 .und, js.getD 31 .und, js.getD 32 .und, js.getD 33 .und, js.getD 34 .und]) (fun ⟨i, al, js⟩ => ⟨[], [], 0⟩) (fun ⟨i, al, js⟩ => i ≤ 5 ∧ IsB al (exB key info i)) (fun ⟨i, al, js⟩ => 6 - i) ⟨0, .nils, [_, _, _, _, _, _, _, _, _, _, _, _, _, _, _, _, _, _, _, _, _, _, _, _, _, _, _, _, _, _, _, _, _, _, _]⟩ rfl rfl ?hi0 ?_
  rotate_left
  rintro ⟨i, al, js⟩ sl_ hs hi
  simp only [setsF, setF, Option.some.injEq] at hs
  subst hs
  case hi0 => exact ⟨by omega, .nils⟩
  obtain ⟨hi, hal⟩ := hi
  by_cases hlt : 32 * i < N
  · have hd : decide (32 * (i : Int) < (N : Int)) = true := by simp only [decide_eq_true_eq]; omega
    have hle := exB_le key info i
    have hone := hal.one_
    have hx : UInt8.ofNat (((i : Int) + 1) % 256).toNat = UInt8.ofNat (i + 1) := by apply UInt8.toNat_inj.1; simp; omega
    have hfl : macB key [exB key info i, info, [UInt8.ofNat (((i : Int) + 1) % 256).toNat]].flatten = exB key info (i + 1) := by rw [exB_step, hx]; simp
    have hE := exB_length key info i
    have hb1 := exN_block key info (show i < 255 by omega) hlt
    have hb2 := exN_block_length key info (show N ≤ 8160 by omega) hlt
    have hb3 : ((exB key info (i + 1)).take (min 32 (N - 32 * i))).length = min 32 (N - 32 * i) := by rw [List.length_take, hE]; omega
    have q1 : (!(((exN key info N).drop (32 * i)).take (min (32 * i + 32) N - 32 * i) == (exB key info (i + 1)).take (min 32 (N - 32 * i)))) = false := by rw [hb1]; simp
    have q2 : decide (min 32 (N : Int) ≤ 32) = true := by simp; omega
    repeat' (first
      | with_reducible refine AWP_seq ?_
      | ((fail_if_success (with_reducible refine At_region (id := 13) ?_)); with_reducible refine AWP_region ?_)
      | with_reducible refine AOPS_nil ?_
      | with_reducible refine AThen_normal ?_
      | with_reducible refine AThen_ret ?_
      | with_reducible refine AThen_exit ?_
      | with_reducible refine ABlock_normal ?_
      | with_reducible refine ABlock_ret ?_
      | with_reducible refine ABlock_exit ?_
      | ((with_reducible apply ABlock_other); (case hij => rfl))
      | with_reducible refine ARound_ret ?_
      | with_reducible refine ARound_exit ?_
      | with_reducible refine ANext_normal ?_
      | with_reducible refine ANext_ret ?_
      | with_reducible refine ANext_exit ?_
      | with_reducible refine ARounds_step ?_
      | with_reducible refine ALoopQ_ret ?_
      | with_reducible refine ALoopQ_exit ?_
      | with_reducible refine AWP_block ?_
      | with_reducible refine AWP_skip ?_
      | with_reducible refine AWP_ret ?_
      | with_reducible refine AWP_exit ?_
      | ((with_reducible apply AWP_cond_t); (case hc => rfl); (case hb => (first | with_reducible assumption | with_reducible rfl | (simp only [hd, hone]; done) | (simp; done) | (simp; omega))))
      | ((with_reducible apply AWP_cond_f); (case hc => rfl); (case hb => (first | with_reducible assumption | with_reducible rfl | (simp only [hd, hone]; done) | (simp; done) | (simp; omega))))
      | ((with_reducible apply AOPS_guard_yes); (case hy => rfl); (case hb => (first | with_reducible assumption | with_reducible rfl | (simp only [hd, hone]; done) | (simp; done) | (simp; omega))))
      | ((with_reducible apply AOPS_guard_no); (case hy => rfl); (case hb => (first | with_reducible assumption | with_reducible rfl | (simp only [hd, hone]; done) | (simp; done) | (simp; omega))); (case hs => (simp only [aput, List.set_cons_succ, List.set_cons_zero]; rfl)))
      | ((with_reducible apply AOPS_guard_und); (case hy => rfl); (case hs => (simp only [aput, List.set_cons_succ, List.set_cons_zero]; rfl)))
      | ((with_reducible apply S_move); (case hx => rfl); (case hs => (simp only [aput, List.set_cons_succ, List.set_cons_zero]; rfl)))
      | ((with_reducible apply S_assign); (case hx => rfl); (case hs => (simp only [aput, List.set_cons_succ, List.set_cons_zero]; rfl)))
      | ((with_reducible apply S_pick_t); (case hc => rfl); (case hb => (first | with_reducible assumption | with_reducible rfl | (simp only [hd, hone]; done) | (simp; done) | (simp; omega))); (case hx => rfl); (case hs => (simp only [aput, List.set_cons_succ, List.set_cons_zero]; rfl)))
      | ((with_reducible apply S_pick_f); (case hc => rfl); (case hb => (first | with_reducible assumption | with_reducible rfl | (simp only [hd, hone]; done) | (simp; done) | (simp; omega))); (case hx => rfl); (case hs => (simp only [aput, List.set_cons_succ, List.set_cons_zero]; rfl)))
      | ((with_reducible apply AOPS_not); (case hx => rfl); (case hs => (simp only [aput, List.set_cons_succ, List.set_cons_zero]; rfl)))
      | ((with_reducible apply AOPS_len_sl); (case hx => rfl); (case hs => (simp only [aput, List.set_cons_succ, List.set_cons_zero]; rfl)))
      | ((with_reducible apply AOPS_len_nils); (case hx => rfl); (case hs => (simp only [aput, List.set_cons_succ, List.set_cons_zero]; rfl)))
      | ((with_reducible apply AOPS_len_row); (case hx => rfl); (case hs => (simp only [aput, List.set_cons_succ, List.set_cons_zero]; rfl)))
      | ((with_reducible apply AOPS_len_str); (case hx => rfl); (case hs => (simp only [aput, List.set_cons_succ, List.set_cons_zero]; rfl)))
      | ((with_reducible apply S_len_isB); (case hx => rfl); (case hb => assumption); (case hs => (simp only [aput, List.set_cons_succ, List.set_cons_zero]; rfl)))
      | ((with_reducible apply S_inc8); (case hx => rfl); (case hy => rfl); (case hs => (simp only [aput, List.set_cons_succ, List.set_cons_zero]; rfl)))
      | ((with_reducible apply S_mul); (case hx => rfl); (case hy => rfl); (case hb => (first | (constructor <;> omega) | omega | (simp; done) | (simp; omega))); (case hs => (simp only [aput, List.set_cons_succ, List.set_cons_zero]; rfl)))
      | ((with_reducible apply S_add); (case hx => rfl); (case hy => rfl); (case hb => (first | (constructor <;> omega) | omega | (simp; done) | (simp; omega))); (case hs => (simp only [aput, List.set_cons_succ, List.set_cons_zero]; rfl)))
      | ((with_reducible apply S_sub); (case hx => rfl); (case hy => rfl); (case hb => (first | (constructor <;> omega) | omega | (simp; done) | (simp; omega))); (case hs => (simp only [aput, List.set_cons_succ, List.set_cons_zero]; rfl)))
      | ((with_reducible apply S_min); (case hx => rfl); (case hy => rfl); (case hs => (simp only [aput, List.set_cons_succ, List.set_cons_zero]; rfl)))
      | ((with_reducible apply S_ne8); (case hx => rfl); (case hy => rfl); (case hs => (simp only [aput, List.set_cons_succ, List.set_cons_zero]; rfl)))
      | ((with_reducible apply S_bin); (case hx => rfl); (case hy => rfl); (case ho => rfl); (case hs => (simp only [aput, List.set_cons_succ, List.set_cons_zero]; rfl)))
      | ((with_reducible apply AOPS_str); (case hx => rfl); (case hy => rfl); (case ho => rfl); (case hs => (simp only [aput, List.set_cons_succ, List.set_cons_zero]; rfl)))
      | ((with_reducible apply AOPS_bne); (case hx => rfl); (case hy => rfl); (case hs => (simp only [aput, List.set_cons_succ, List.set_cons_zero]; rfl)))
      | ((with_reducible apply S_conv_same); (case hx => rfl); (case hb => (first | (constructor <;> omega) | omega | (simp; done) | (simp; omega))); (case hs => (simp only [aput, List.set_cons_succ, List.set_cons_zero]; rfl)))
      | ((with_reducible apply S_conv_u8); (case hx => rfl); (case hs => (simp only [aput, List.set_cons_succ, List.set_cons_zero]; rfl)))
      | ((with_reducible apply S_conv_byte); (case hx => rfl); (case hs => (simp only [aput, List.set_cons_succ, List.set_cons_zero]; rfl)))
      | ((with_reducible apply AOPS_conv); (case hx => rfl); (case hs => (simp only [aput, List.set_cons_succ, List.set_cons_zero]; rfl)))
      | ((with_reducible apply S_extract); (case hx => rfl); (case hi => rfl); (case hs => (simp only [aput, List.set_cons_succ, List.set_cons_zero]; rfl)))
      | ((with_reducible apply S_lit); (case hp => rfl); (case ho => (first | rfl | (simp only [List.all_cons, List.all_nil, Bool.and_true, Bool.and_self, bvA_one, sl_one, nils_one, str_one, hd, hone]; done) | (simp [AV.one, hd, hone]; done))); (case hl => rfl); (case hzl => rfl); (case hb => decide); (case hs => (simp only [aput, List.set_cons_succ, List.set_cons_zero]; rfl)))
      | ((with_reducible apply S_slice8_lh); (case hx => rfl); (case hy => rfl); (case hz => rfl); (case hl => rfl); (case hh => rfl); (case hlm => (first | (constructor <;> omega) | omega | (simp; done) | (simp; omega))); (case hs => (simp only [aput, List.set_cons_succ, List.set_cons_zero]; rfl)))
      | ((with_reducible apply S_slice8_h); (case hx => rfl); (case hz => rfl); (case hh => rfl); (case hlm => (first | (constructor <;> omega) | omega | (simp; done) | (simp; omega))); (case hs => (simp only [aput, List.set_cons_succ, List.set_cons_zero]; rfl)))
      | ((with_reducible apply S_slice8_l); (case hx => rfl); (case hy => rfl); (case hl => rfl); (case hlm => (first | (constructor <;> omega) | omega | (simp; done) | (simp; omega))); (case hs => (simp only [aput, List.set_cons_succ, List.set_cons_zero]; rfl)))
      | ((with_reducible apply AOPS_string); (case hx => rfl); (case hb => rfl); (case hl => (first | rfl | with_reducible assumption | (simp; done) | (simp; omega) | omega)); (case hs => (simp only [aput, List.set_cons_succ, List.set_cons_zero]; rfl)))
      | ((with_reducible apply AOPS_string_nils); (case hx => rfl); (case hs => (simp only [aput, List.set_cons_succ, List.set_cons_zero]; rfl)))
      | ((with_reducible apply S_string_isB); (case hx => rfl); (case hb => assumption); (case hs => (simp only [aput, List.set_cons_succ, List.set_cons_zero]; rfl)))
      | ((with_reducible apply AOPS_bytes); (case hx => rfl); (case hs => (simp only [aput, List.set_cons_succ, List.set_cons_zero]; rfl)))
      | ((with_reducible apply S_call_val (g := 16)); (case hf => rfl); (case ha => rfl); (case h => exact (code_val (key := key) (ls := [exB key info i, info, [UInt8.ofNat (((i : Int) + 1) % 256).toNat]]) (.mk_ _ _) (.cons hal (.cons (.mk_ _ _) (.cons (.one _ _) .nil))) rfl (by omega) (by simp; omega))); (case hc => exact (fun vs w => by kernel_rfl)); (case hs => (simp only [aput, List.set_cons_succ, List.set_cons_zero]; rfl)))
      | fail)
    rw [hfl]
    repeat' (first
      | with_reducible refine AWP_seq ?_
      | with_reducible refine AWP_region ?_
      | with_reducible refine AOPS_nil ?_
      | with_reducible refine AThen_normal ?_
      | with_reducible refine AThen_ret ?_
      | with_reducible refine AThen_exit ?_
      | with_reducible refine ABlock_normal ?_
      | with_reducible refine ABlock_ret ?_
      | with_reducible refine ABlock_exit ?_
      | ((with_reducible apply ABlock_other); (case hij => rfl))
      | with_reducible refine ARound_ret ?_
      | with_reducible refine ARound_exit ?_
      | with_reducible refine ANext_normal ?_
      | with_reducible refine ANext_ret ?_
      | with_reducible refine ANext_exit ?_
      | with_reducible refine ARounds_step ?_
      | with_reducible refine ALoopQ_ret ?_
      | with_reducible refine ALoopQ_exit ?_
      | with_reducible refine AWP_block ?_
      | with_reducible refine AWP_skip ?_
      | with_reducible refine AWP_ret ?_
      | with_reducible refine AWP_exit ?_
      | ((with_reducible apply AWP_cond_t); (case hc => rfl); (case hb => (first | with_reducible assumption | with_reducible rfl | (simp only [q1]; done) | (simp; done) | (simp; omega))))
      | ((with_reducible apply AWP_cond_f); (case hc => rfl); (case hb => (first | with_reducible assumption | with_reducible rfl | (simp only [q1]; done) | (simp; done) | (simp; omega))))
      | ((with_reducible apply AOPS_guard_yes); (case hy => rfl); (case hb => (first | with_reducible assumption | with_reducible rfl | (simp only [q1]; done) | (simp; done) | (simp; omega))))
      | ((with_reducible apply AOPS_guard_no); (case hy => rfl); (case hb => (first | with_reducible assumption | with_reducible rfl | (simp only [q1]; done) | (simp; done) | (simp; omega))); (case hs => (simp only [aput, List.set_cons_succ, List.set_cons_zero]; rfl)))
      | ((with_reducible apply AOPS_guard_und); (case hy => rfl); (case hs => (simp only [aput, List.set_cons_succ, List.set_cons_zero]; rfl)))
      | ((with_reducible apply S_move); (case hx => rfl); (case hs => (simp only [aput, List.set_cons_succ, List.set_cons_zero]; rfl)))
      | ((with_reducible apply S_assign); (case hx => rfl); (case hs => (simp only [aput, List.set_cons_succ, List.set_cons_zero]; rfl)))
      | ((with_reducible apply S_pick_t); (case hc => rfl); (case hb => (first | with_reducible assumption | with_reducible rfl | (simp only [q1]; done) | (simp; done) | (simp; omega))); (case hx => rfl); (case hs => (simp only [aput, List.set_cons_succ, List.set_cons_zero]; rfl)))
      | ((with_reducible apply S_pick_f); (case hc => rfl); (case hb => (first | with_reducible assumption | with_reducible rfl | (simp only [q1]; done) | (simp; done) | (simp; omega))); (case hx => rfl); (case hs => (simp only [aput, List.set_cons_succ, List.set_cons_zero]; rfl)))
      | ((with_reducible apply AOPS_not); (case hx => rfl); (case hs => (simp only [aput, List.set_cons_succ, List.set_cons_zero]; rfl)))
      | ((with_reducible apply AOPS_len_sl); (case hx => rfl); (case hs => (simp only [aput, List.set_cons_succ, List.set_cons_zero]; rfl)))
      | ((with_reducible apply AOPS_len_nils); (case hx => rfl); (case hs => (simp only [aput, List.set_cons_succ, List.set_cons_zero]; rfl)))
      | ((with_reducible apply AOPS_len_row); (case hx => rfl); (case hs => (simp only [aput, List.set_cons_succ, List.set_cons_zero]; rfl)))
      | ((with_reducible apply AOPS_len_str); (case hx => rfl); (case hs => (simp only [aput, List.set_cons_succ, List.set_cons_zero]; rfl)))
      | ((with_reducible apply S_len_isB); (case hx => rfl); (case hb => assumption); (case hs => (simp only [aput, List.set_cons_succ, List.set_cons_zero]; rfl)))
      | ((with_reducible apply S_inc8); (case hx => rfl); (case hy => rfl); (case hs => (simp only [aput, List.set_cons_succ, List.set_cons_zero]; rfl)))
      | ((with_reducible apply S_mul); (case hx => rfl); (case hy => rfl); (case hb => (first | (constructor <;> omega) | omega | (simp; done) | (simp; omega))); (case hs => (simp only [aput, List.set_cons_succ, List.set_cons_zero]; rfl)))
      | ((with_reducible apply S_add); (case hx => rfl); (case hy => rfl); (case hb => (first | (constructor <;> omega) | omega | (simp; done) | (simp; omega))); (case hs => (simp only [aput, List.set_cons_succ, List.set_cons_zero]; rfl)))
      | ((with_reducible apply S_sub); (case hx => rfl); (case hy => rfl); (case hb => (first | (constructor <;> omega) | omega | (simp; done) | (simp; omega))); (case hs => (simp only [aput, List.set_cons_succ, List.set_cons_zero]; rfl)))
      | ((with_reducible apply S_min); (case hx => rfl); (case hy => rfl); (case hs => (simp only [aput, List.set_cons_succ, List.set_cons_zero]; rfl)))
      | ((with_reducible apply S_ne8); (case hx => rfl); (case hy => rfl); (case hs => (simp only [aput, List.set_cons_succ, List.set_cons_zero]; rfl)))
      | ((with_reducible apply S_bin); (case hx => rfl); (case hy => rfl); (case ho => rfl); (case hs => (simp only [aput, List.set_cons_succ, List.set_cons_zero]; rfl)))
      | ((with_reducible apply AOPS_str); (case hx => rfl); (case hy => rfl); (case ho => rfl); (case hs => (simp only [aput, List.set_cons_succ, List.set_cons_zero]; rfl)))
      | ((with_reducible apply AOPS_bne); (case hx => rfl); (case hy => rfl); (case hs => (simp only [aput, List.set_cons_succ, List.set_cons_zero]; rfl)))
      | ((with_reducible apply S_conv_same); (case hx => rfl); (case hb => (first | (constructor <;> omega) | omega | (simp; done) | (simp; omega))); (case hs => (simp only [aput, List.set_cons_succ, List.set_cons_zero]; rfl)))
      | ((with_reducible apply S_conv_u8); (case hx => rfl); (case hs => (simp only [aput, List.set_cons_succ, List.set_cons_zero]; rfl)))
      | ((with_reducible apply S_conv_byte); (case hx => rfl); (case hs => (simp only [aput, List.set_cons_succ, List.set_cons_zero]; rfl)))
      | ((with_reducible apply AOPS_conv); (case hx => rfl); (case hs => (simp only [aput, List.set_cons_succ, List.set_cons_zero]; rfl)))
      | ((with_reducible apply S_extract); (case hx => rfl); (case hi => rfl); (case hs => (simp only [aput, List.set_cons_succ, List.set_cons_zero]; rfl)))
      | ((with_reducible apply S_lit); (case hp => rfl); (case ho => (first | rfl | (simp only [List.all_cons, List.all_nil, Bool.and_true, Bool.and_self, bvA_one, sl_one, nils_one, str_one, q1]; done) | (simp [AV.one, q1]; done))); (case hl => rfl); (case hzl => rfl); (case hb => decide); (case hs => (simp only [aput, List.set_cons_succ, List.set_cons_zero]; rfl)))
      | ((with_reducible apply S_slice8_lh); (case hx => rfl); (case hy => rfl); (case hz => rfl); (case hl => rfl); (case hh => rfl); (case hlm => (first | (constructor <;> omega) | omega | (simp; done) | (simp; omega))); (case hs => (simp only [aput, List.set_cons_succ, List.set_cons_zero]; rfl)))
      | ((with_reducible apply S_slice8_h); (case hx => rfl); (case hz => rfl); (case hh => rfl); (case hlm => (first | (constructor <;> omega) | omega | (simp; done) | (simp; omega))); (case hs => (simp only [aput, List.set_cons_succ, List.set_cons_zero]; rfl)))
      | ((with_reducible apply S_slice8_l); (case hx => rfl); (case hy => rfl); (case hl => rfl); (case hlm => (first | (constructor <;> omega) | omega | (simp; done) | (simp; omega))); (case hs => (simp only [aput, List.set_cons_succ, List.set_cons_zero]; rfl)))
      | ((with_reducible apply AOPS_string); (case hx => rfl); (case hb => rfl); (case hl => (first | rfl | with_reducible assumption | (simp; done) | (simp; omega) | omega)); (case hs => (simp only [aput, List.set_cons_succ, List.set_cons_zero]; rfl)))
      | ((with_reducible apply AOPS_string_nils); (case hx => rfl); (case hs => (simp only [aput, List.set_cons_succ, List.set_cons_zero]; rfl)))
      | ((with_reducible apply S_string_isB); (case hx => rfl); (case hb => assumption); (case hs => (simp only [aput, List.set_cons_succ, List.set_cons_zero]; rfl)))
      | ((with_reducible apply AOPS_bytes); (case hx => rfl); (case hs => (simp only [aput, List.set_cons_succ, List.set_cons_zero]; rfl)))
      | ((with_reducible apply TS_slice8_lh (i := 32 * i) (m := min (32 * i + 32) N)); (case hx => rfl); (case hy => rfl); (case hz => rfl); (case hl => omega); (case hh => omega); (case hlm => omega); (case hs => (simp only [aput, List.set_cons_succ, List.set_cons_zero]; rfl)))
      | ((with_reducible apply TS_slice8_h (m := min 32 (N - 32 * i))); (case hx => rfl); (case hz => rfl); (case hh => omega); (case hlm => omega); (case hs => (simp only [aput, List.set_cons_succ, List.set_cons_zero]; rfl)))
      | with_reducible refine ATK_nil ?_
      | with_reducible refine AAnyQ_normal ?_
      | ((with_reducible apply ATK_guard_yes); (case hy => rfl); (case hb => (first | with_reducible assumption | with_reducible rfl | (simp only [q1]; done) | (simp; done) | (simp; omega))))
      | ((with_reducible apply ATK_guard_no); (case hy => rfl); (case hb => (first | with_reducible assumption | with_reducible rfl | (simp only [q1]; done) | (simp; done) | (simp; omega))); (case hs => (simp only [aput, List.set_cons_succ, List.set_cons_zero]; rfl)))
      | ((with_reducible apply ATK_guard_und); (case hy => rfl); (case hs => (simp only [aput, List.set_cons_succ, List.set_cons_zero]; rfl)))
      | ((with_reducible apply TS_move); (case hx => rfl); (case hs => (simp only [aput, List.set_cons_succ, List.set_cons_zero]; rfl)))
      | ((with_reducible apply TS_inc8); (case hx => rfl); (case hy => rfl); (case hs => (simp only [aput, List.set_cons_succ, List.set_cons_zero]; rfl)))
      | ((with_reducible apply TS_mul); (case hx => rfl); (case hy => rfl); (case hb => (first | (constructor <;> omega) | omega | (simp; done) | (simp; omega))); (case hs => (simp only [aput, List.set_cons_succ, List.set_cons_zero]; rfl)))
      | ((with_reducible apply TS_add); (case hx => rfl); (case hy => rfl); (case hb => (first | (constructor <;> omega) | omega | (simp; done) | (simp; omega))); (case hs => (simp only [aput, List.set_cons_succ, List.set_cons_zero]; rfl)))
      | ((with_reducible apply TS_sub); (case hx => rfl); (case hy => rfl); (case hb => (first | (constructor <;> omega) | omega | (simp; done) | (simp; omega))); (case hs => (simp only [aput, List.set_cons_succ, List.set_cons_zero]; rfl)))
      | ((with_reducible apply TS_min); (case hx => rfl); (case hy => rfl); (case hs => (simp only [aput, List.set_cons_succ, List.set_cons_zero]; rfl)))
      | ((with_reducible apply TS_ne8); (case hx => rfl); (case hy => rfl); (case hs => (simp only [aput, List.set_cons_succ, List.set_cons_zero]; rfl)))
      | ((with_reducible apply TS_bin); (case hx => rfl); (case hy => rfl); (case ho => rfl); (case hs => (simp only [aput, List.set_cons_succ, List.set_cons_zero]; rfl)))
      | ((with_reducible apply ATK_str); (case hx => rfl); (case hy => rfl); (case ho => rfl); (case hs => (simp only [aput, List.set_cons_succ, List.set_cons_zero]; rfl)))
      | ((with_reducible apply ATK_bne); (case hx => rfl); (case hy => rfl); (case hs => (simp only [aput, List.set_cons_succ, List.set_cons_zero]; rfl)))
      | ((with_reducible apply TS_conv_same); (case hx => rfl); (case hb => (first | (constructor <;> omega) | omega | (simp; done) | (simp; omega))); (case hs => (simp only [aput, List.set_cons_succ, List.set_cons_zero]; rfl)))
      | ((with_reducible apply TS_conv_u8); (case hx => rfl); (case hs => (simp only [aput, List.set_cons_succ, List.set_cons_zero]; rfl)))
      | ((with_reducible apply TS_conv_byte); (case hx => rfl); (case hs => (simp only [aput, List.set_cons_succ, List.set_cons_zero]; rfl)))
      | ((with_reducible apply ATK_conv); (case hx => rfl); (case hs => (simp only [aput, List.set_cons_succ, List.set_cons_zero]; rfl)))
      | ((with_reducible apply TS_slice8_lh); (case hx => rfl); (case hy => rfl); (case hz => rfl); (case hl => rfl); (case hh => rfl); (case hlm => (first | (constructor <;> omega) | omega | (simp; done) | (simp; omega))); (case hs => (simp only [aput, List.set_cons_succ, List.set_cons_zero]; rfl)))
      | ((with_reducible apply TS_slice8_h); (case hx => rfl); (case hz => rfl); (case hh => rfl); (case hlm => (first | (constructor <;> omega) | omega | (simp; done) | (simp; omega))); (case hs => (simp only [aput, List.set_cons_succ, List.set_cons_zero]; rfl)))
      | ((with_reducible apply TS_slice8_l); (case hx => rfl); (case hy => rfl); (case hl => rfl); (case hlm => (first | (constructor <;> omega) | omega | (simp; done) | (simp; omega))); (case hs => (simp only [aput, List.set_cons_succ, List.set_cons_zero]; rfl)))
      | ((with_reducible apply ATK_string); (case hx => rfl); (case hb => rfl); (case hl => (first | rfl | with_reducible assumption | (simp; done) | (simp; omega) | omega)); (case hs => (simp only [aput, List.set_cons_succ, List.set_cons_zero]; rfl)))
      | ((with_reducible apply ATK_string_nils); (case hx => rfl); (case hs => (simp only [aput, List.set_cons_succ, List.set_cons_zero]; rfl)))
      | ((with_reducible apply TS_string_isB); (case hx => rfl); (case hb => assumption); (case hs => (simp only [aput, List.set_cons_succ, List.set_cons_zero]; rfl)))
      | ((with_reducible apply AWP_draw (n := 19)); (case hm => kernel_rfl); (case hn => rfl))
      | ((with_reducible apply AANY_done); (case hr => decide +kernel))
      | ((with_reducible apply AANY_take (i := 0)); (case hn => rfl); (case hr => decide +kernel); (case ho => rfl); (case hs => kernel_rfl); (case hf => decide +kernel))
      | ((with_reducible apply AANY_take (i := 1)); (case hn => rfl); (case hr => decide +kernel); (case ho => rfl); (case hs => kernel_rfl); (case hf => decide +kernel))
      | ((with_reducible apply AANY_take (i := 2)); (case hn => rfl); (case hr => decide +kernel); (case ho => rfl); (case hs => kernel_rfl); (case hf => decide +kernel))
      | ((with_reducible apply AANY_take (i := 3)); (case hn => rfl); (case hr => decide +kernel); (case ho => rfl); (case hs => kernel_rfl); (case hf => decide +kernel))
      | ((with_reducible apply AANY_take (i := 4)); (case hn => rfl); (case hr => decide +kernel); (case ho => rfl); (case hs => kernel_rfl); (case hf => decide +kernel))
      | ((with_reducible apply AANY_take (i := 5)); (case hn => rfl); (case hr => decide +kernel); (case ho => rfl); (case hs => kernel_rfl); (case hf => decide +kernel))
      | ((with_reducible apply AANY_take (i := 6)); (case hn => rfl); (case hr => decide +kernel); (case ho => rfl); (case hs => kernel_rfl); (case hf => decide +kernel))
      | ((with_reducible apply AANY_take (i := 7)); (case hn => rfl); (case hr => decide +kernel); (case ho => rfl); (case hs => kernel_rfl); (case hf => decide +kernel))
      | ((with_reducible apply AANY_take (i := 8)); (case hn => rfl); (case hr => decide +kernel); (case ho => rfl); (case hs => kernel_rfl); (case hf => decide +kernel))
      | ((with_reducible apply AANY_take (i := 9)); (case hn => rfl); (case hr => decide +kernel); (case ho => rfl); (case hs => kernel_rfl); (case hf => decide +kernel))
      | ((with_reducible apply AANY_take (i := 10)); (case hn => rfl); (case hr => decide +kernel); (case ho => rfl); (case hs => kernel_rfl); (case hf => decide +kernel))
      | ((with_reducible apply AANY_take (i := 11)); (case hn => rfl); (case hr => decide +kernel); (case ho => rfl); (case hs => kernel_rfl); (case hf => decide +kernel))
      | ((with_reducible apply AANY_take (i := 12)); (case hn => rfl); (case hr => decide +kernel); (case ho => rfl); (case hs => kernel_rfl); (case hf => decide +kernel))
      | ((with_reducible apply AANY_take (i := 13)); (case hn => rfl); (case hr => decide +kernel); (case ho => rfl); (case hs => kernel_rfl); (case hf => decide +kernel))
      | ((with_reducible apply AANY_take (i := 14)); (case hn => rfl); (case hr => decide +kernel); (case ho => rfl); (case hs => kernel_rfl); (case hf => decide +kernel))
      | ((with_reducible apply AANY_take (i := 15)); (case hn => rfl); (case hr => decide +kernel); (case ho => rfl); (case hs => kernel_rfl); (case hf => decide +kernel))
      | ((with_reducible apply AANY_take (i := 16)); (case hn => rfl); (case hr => decide +kernel); (case ho => rfl); (case hs => kernel_rfl); (case hf => decide +kernel))
      | ((with_reducible apply AANY_take (i := 17)); (case hn => rfl); (case hr => decide +kernel); (case ho => rfl); (case hs => kernel_rfl); (case hf => decide +kernel))
      | ((with_reducible apply AANY_take (i := 18)); (case hn => rfl); (case hr => decide +kernel); (case ho => rfl); (case hs => kernel_rfl); (case hf => decide +kernel))
      | ((with_reducible apply AANY_step []); (case hn => rfl); (case hr => decide +kernel); (case hne => decide +kernel))
      | with_reducible exact ACands_nil
      | with_reducible refine ACands_cons ?_ ?_
      | ((with_reducible refine ACand_no ?_); decide +kernel)
      | ((with_reducible apply ACand_yes); (case ho => rfl))
      | fail)
    all_goals
      refine ALoopQ_normal ⟨i + 1, .sl .none ((exB key info (i + 1)).map bvA) 32, [_, _, _, _, _, _, _, _, _, _, _, _, _, _, _, _, _, _, _, _, _, _, _, _, _, _, _, _, _, _, _, _, _, _, _]⟩ rfl rfl ?hi1 ?hm1
    all_goals first | (refine ⟨by omega, IsB.mk' _ _ hE⟩) | (simp only; omega)
  · have hd : decide (32 * (i : Int) < (N : Int)) = false := by simp only [decide_eq_false_iff_not]; omega
    repeat (first
      | with_reducible refine AWP_seq ?_
      | with_reducible refine AWP_region ?_
      | with_reducible refine AOPS_nil ?_
      | with_reducible refine AThen_normal ?_
      | with_reducible refine AThen_ret ?_
      | with_reducible refine AThen_exit ?_
      | with_reducible refine ABlock_normal ?_
      | with_reducible refine ABlock_ret ?_
      | with_reducible refine ABlock_exit ?_
      | ((with_reducible apply ABlock_other); (case hij => rfl))
      | with_reducible refine ARound_ret ?_
      | with_reducible refine ARound_exit ?_
      | with_reducible refine ANext_normal ?_
      | with_reducible refine ANext_ret ?_
      | with_reducible refine ANext_exit ?_
      | with_reducible refine ARounds_step ?_
      | with_reducible refine ALoopQ_ret ?_
      | with_reducible refine ALoopQ_exit ?_
      | with_reducible refine AWP_block ?_
      | with_reducible refine AWP_skip ?_
      | with_reducible refine AWP_ret ?_
      | with_reducible refine AWP_exit ?_
      | ((with_reducible apply AWP_cond_t); (case hc => rfl); (case hb => (first | with_reducible assumption | with_reducible rfl | (simp only [hd]; done) | (simp; done) | (simp; omega))))
      | ((with_reducible apply AWP_cond_f); (case hc => rfl); (case hb => (first | with_reducible assumption | with_reducible rfl | (simp only [hd]; done) | (simp; done) | (simp; omega))))
      | ((with_reducible apply AOPS_guard_yes); (case hy => rfl); (case hb => (first | with_reducible assumption | with_reducible rfl | (simp only [hd]; done) | (simp; done) | (simp; omega))))
      | ((with_reducible apply AOPS_guard_no); (case hy => rfl); (case hb => (first | with_reducible assumption | with_reducible rfl | (simp only [hd]; done) | (simp; done) | (simp; omega))); (case hs => (simp only [aput, List.set_cons_succ, List.set_cons_zero]; rfl)))
      | ((with_reducible apply AOPS_guard_und); (case hy => rfl); (case hs => (simp only [aput, List.set_cons_succ, List.set_cons_zero]; rfl)))
      | ((with_reducible apply S_move); (case hx => rfl); (case hs => (simp only [aput, List.set_cons_succ, List.set_cons_zero]; rfl)))
      | ((with_reducible apply S_assign); (case hx => rfl); (case hs => (simp only [aput, List.set_cons_succ, List.set_cons_zero]; rfl)))
      | ((with_reducible apply S_pick_t); (case hc => rfl); (case hb => (first | with_reducible assumption | with_reducible rfl | (simp only [hd]; done) | (simp; done) | (simp; omega))); (case hx => rfl); (case hs => (simp only [aput, List.set_cons_succ, List.set_cons_zero]; rfl)))
      | ((with_reducible apply S_pick_f); (case hc => rfl); (case hb => (first | with_reducible assumption | with_reducible rfl | (simp only [hd]; done) | (simp; done) | (simp; omega))); (case hx => rfl); (case hs => (simp only [aput, List.set_cons_succ, List.set_cons_zero]; rfl)))
      | ((with_reducible apply AOPS_not); (case hx => rfl); (case hs => (simp only [aput, List.set_cons_succ, List.set_cons_zero]; rfl)))
      | ((with_reducible apply AOPS_len_sl); (case hx => rfl); (case hs => (simp only [aput, List.set_cons_succ, List.set_cons_zero]; rfl)))
      | ((with_reducible apply AOPS_len_nils); (case hx => rfl); (case hs => (simp only [aput, List.set_cons_succ, List.set_cons_zero]; rfl)))
      | ((with_reducible apply AOPS_len_row); (case hx => rfl); (case hs => (simp only [aput, List.set_cons_succ, List.set_cons_zero]; rfl)))
      | ((with_reducible apply AOPS_len_str); (case hx => rfl); (case hs => (simp only [aput, List.set_cons_succ, List.set_cons_zero]; rfl)))
      | ((with_reducible apply S_len_isB); (case hx => rfl); (case hb => assumption); (case hs => (simp only [aput, List.set_cons_succ, List.set_cons_zero]; rfl)))
      | ((with_reducible apply S_inc8); (case hx => rfl); (case hy => rfl); (case hs => (simp only [aput, List.set_cons_succ, List.set_cons_zero]; rfl)))
      | ((with_reducible apply S_mul); (case hx => rfl); (case hy => rfl); (case hb => (first | (constructor <;> omega) | omega | (simp; done) | (simp; omega))); (case hs => (simp only [aput, List.set_cons_succ, List.set_cons_zero]; rfl)))
      | ((with_reducible apply S_add); (case hx => rfl); (case hy => rfl); (case hb => (first | (constructor <;> omega) | omega | (simp; done) | (simp; omega))); (case hs => (simp only [aput, List.set_cons_succ, List.set_cons_zero]; rfl)))
      | ((with_reducible apply S_sub); (case hx => rfl); (case hy => rfl); (case hb => (first | (constructor <;> omega) | omega | (simp; done) | (simp; omega))); (case hs => (simp only [aput, List.set_cons_succ, List.set_cons_zero]; rfl)))
      | ((with_reducible apply S_min); (case hx => rfl); (case hy => rfl); (case hs => (simp only [aput, List.set_cons_succ, List.set_cons_zero]; rfl)))
      | ((with_reducible apply S_ne8); (case hx => rfl); (case hy => rfl); (case hs => (simp only [aput, List.set_cons_succ, List.set_cons_zero]; rfl)))
      | ((with_reducible apply S_bin); (case hx => rfl); (case hy => rfl); (case ho => rfl); (case hs => (simp only [aput, List.set_cons_succ, List.set_cons_zero]; rfl)))
      | ((with_reducible apply AOPS_str); (case hx => rfl); (case hy => rfl); (case ho => rfl); (case hs => (simp only [aput, List.set_cons_succ, List.set_cons_zero]; rfl)))
      | ((with_reducible apply AOPS_bne); (case hx => rfl); (case hy => rfl); (case hs => (simp only [aput, List.set_cons_succ, List.set_cons_zero]; rfl)))
      | ((with_reducible apply S_conv_same); (case hx => rfl); (case hb => (first | (constructor <;> omega) | omega | (simp; done) | (simp; omega))); (case hs => (simp only [aput, List.set_cons_succ, List.set_cons_zero]; rfl)))
      | ((with_reducible apply S_conv_u8); (case hx => rfl); (case hs => (simp only [aput, List.set_cons_succ, List.set_cons_zero]; rfl)))
      | ((with_reducible apply S_conv_byte); (case hx => rfl); (case hs => (simp only [aput, List.set_cons_succ, List.set_cons_zero]; rfl)))
      | ((with_reducible apply AOPS_conv); (case hx => rfl); (case hs => (simp only [aput, List.set_cons_succ, List.set_cons_zero]; rfl)))
      | ((with_reducible apply S_extract); (case hx => rfl); (case hi => rfl); (case hs => (simp only [aput, List.set_cons_succ, List.set_cons_zero]; rfl)))
      | ((with_reducible apply S_lit); (case hp => rfl); (case ho => (first | rfl | (simp only [List.all_cons, List.all_nil, Bool.and_true, Bool.and_self, bvA_one, sl_one, nils_one, str_one, hd]; done) | (simp [AV.one, hd]; done))); (case hl => rfl); (case hzl => rfl); (case hb => decide); (case hs => (simp only [aput, List.set_cons_succ, List.set_cons_zero]; rfl)))
      | ((with_reducible apply S_slice8_lh); (case hx => rfl); (case hy => rfl); (case hz => rfl); (case hl => rfl); (case hh => rfl); (case hlm => (first | (constructor <;> omega) | omega | (simp; done) | (simp; omega))); (case hs => (simp only [aput, List.set_cons_succ, List.set_cons_zero]; rfl)))
      | ((with_reducible apply S_slice8_h); (case hx => rfl); (case hz => rfl); (case hh => rfl); (case hlm => (first | (constructor <;> omega) | omega | (simp; done) | (simp; omega))); (case hs => (simp only [aput, List.set_cons_succ, List.set_cons_zero]; rfl)))
      | ((with_reducible apply S_slice8_l); (case hx => rfl); (case hy => rfl); (case hl => rfl); (case hlm => (first | (constructor <;> omega) | omega | (simp; done) | (simp; omega))); (case hs => (simp only [aput, List.set_cons_succ, List.set_cons_zero]; rfl)))
      | ((with_reducible apply AOPS_string); (case hx => rfl); (case hb => rfl); (case hl => (first | rfl | with_reducible assumption | (simp; done) | (simp; omega) | omega)); (case hs => (simp only [aput, List.set_cons_succ, List.set_cons_zero]; rfl)))
      | ((with_reducible apply AOPS_string_nils); (case hx => rfl); (case hs => (simp only [aput, List.set_cons_succ, List.set_cons_zero]; rfl)))
      | ((with_reducible apply S_string_isB); (case hx => rfl); (case hb => assumption); (case hs => (simp only [aput, List.set_cons_succ, List.set_cons_zero]; rfl)))
      | ((with_reducible apply AOPS_bytes); (case hx => rfl); (case hs => (simp only [aput, List.set_cons_succ, List.set_cons_zero]; rfl)))
      | fail)
    refine ARet_ret rfl (.tmpO rfl .nil) ?_
    rfl
theorem MacBlocks_walk (w : World) (Akey : Option Addr) (nkey ckey : Nat) (key : List UInt8) (hkey : RBytes w [.slice Akey nkey ckey] key) (Ainfo : Option Addr) (ninfo cinfo : Nat) (info : List UInt8) (hinfo : RBytes w [.slice Ainfo ninfo cinfo] info) (n : Int) (hn : (Lit.int .i64 n).wf = true) :
    Calls Try.prog 8 #[.slice Akey nkey ckey, .slice Ainfo ninfo cinfo, .int .i64 n] w (Tells w true) := (MacBlocks_law key info n).tells (.cons hkey.reps (.cons hinfo.reps (.cons Reps_int .nil)))
end Go.Proofs.Ytdekfobcdmlelaa
