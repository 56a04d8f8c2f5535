/- MacSpreads. -/
import Derived.Test.YtdekfobcdmlelaaMacV
namespace Go.Proofs.Ytdekfobcdmlelaa
open Go.RowKit
set_option linter.unusedVariables false
set_option linter.unusedSimpArgs false
set_option maxRecDepth 10000
set_option maxHeartbeats 4000000
variable {M : MM} {w : World}

theorem exN_take (key info : List UInt8) {F N : Nat} (h : F ≤ N) : (exN key info N).take F = exN key info F := by
  unfold exN
  rw [List.take_take, Nat.min_eq_left h]
theorem exN_length (key info : List UInt8) {N : Nat} (h : N ≤ 8160) : (exN key info N).length = N := by
  unfold exN
  rw [List.length_take, exAll_length]
  omega
theorem MacSpreads_law (key info : List UInt8) (n fewer : Int) : ACalls Try.prog 7 [.sl .none (key.map bvA) key.length, .sl .none (info.map bvA) info.length, .int .i64 n, .int .i64 fewer] ⟨[], [], 0⟩ (fun rv _ => rv = .bool true) := by
  refine ACalls_body Try.func7 rfl rfl ?_
  simp only [Try.ntmps7, List.length_cons, List.length_nil, Nat.reduceAdd, Nat.reduceSub, List.replicate_succ, List.replicate_zero, List.cons_append, List.nil_append]
  by_cases h1 : 100 < key.length
  · have d1 : decide ((key.length : Int) > 100) = true := by simp; omega
    repeat' (first
      | with_reducible refine AWP_seq ?_
      | with_reducible refine AWP_region ?_
      | with_reducible refine AOPS_nil ?_
      | with_reducible refine AThen_normal ?_
      | with_reducible refine AThen_ret ?_
      | with_reducible refine AThen_exit ?_
      | with_reducible refine ARound_ret ?_
      | with_reducible refine ARound_exit ?_
      | with_reducible refine AWP_skip ?_
      | with_reducible refine AWP_ret ?_
      | with_reducible refine AWP_exit ?_
      | ((with_reducible apply AWP_cond_t); (case hc => rfl); (case hb => (first | with_reducible assumption | with_reducible rfl | (simp only [d1]; done) | (simp; done) | (simp; omega))))
      | ((with_reducible apply AWP_cond_f); (case hc => rfl); (case hb => (first | with_reducible assumption | with_reducible rfl | (simp only [d1]; done) | (simp; done) | (simp; omega))))
      | ((with_reducible apply AOPS_guard_yes); (case hy => rfl); (case hb => (first | with_reducible assumption | with_reducible rfl | (simp only [d1]; done) | (simp; done) | (simp; omega))))
      | ((with_reducible apply AOPS_guard_no); (case hy => rfl); (case hb => (first | with_reducible assumption | with_reducible rfl | (simp only [d1]; done) | (simp; done) | (simp; omega))); (case hs => (simp only [aput, List.set_cons_succ, List.set_cons_zero]; rfl)))
      | ((with_reducible apply AOPS_guard_und); (case hy => rfl); (case hs => (simp only [aput, List.set_cons_succ, List.set_cons_zero]; rfl)))
      | ((with_reducible apply S_move); (case hx => rfl); (case hs => (simp only [aput, List.set_cons_succ, List.set_cons_zero]; rfl)))
      | ((with_reducible apply S_assign); (case hx => rfl); (case hs => (simp only [aput, List.set_cons_succ, List.set_cons_zero]; rfl)))
      | ((with_reducible apply S_pick_t); (case hc => rfl); (case hb => (first | with_reducible assumption | with_reducible rfl | (simp only [d1]; done) | (simp; done) | (simp; omega))); (case hx => rfl); (case hs => (simp only [aput, List.set_cons_succ, List.set_cons_zero]; rfl)))
      | ((with_reducible apply S_pick_f); (case hc => rfl); (case hb => (first | with_reducible assumption | with_reducible rfl | (simp only [d1]; done) | (simp; done) | (simp; omega))); (case hx => rfl); (case hs => (simp only [aput, List.set_cons_succ, List.set_cons_zero]; rfl)))
      | ((with_reducible apply AOPS_not); (case hx => rfl); (case hs => (simp only [aput, List.set_cons_succ, List.set_cons_zero]; rfl)))
      | ((with_reducible apply AOPS_len_sl); (case hx => rfl); (case hs => (simp only [aput, List.set_cons_succ, List.set_cons_zero]; rfl)))
      | ((with_reducible apply AOPS_len_nils); (case hx => rfl); (case hs => (simp only [aput, List.set_cons_succ, List.set_cons_zero]; rfl)))
      | ((with_reducible apply AOPS_len_row); (case hx => rfl); (case hs => (simp only [aput, List.set_cons_succ, List.set_cons_zero]; rfl)))
      | ((with_reducible apply AOPS_len_str); (case hx => rfl); (case hs => (simp only [aput, List.set_cons_succ, List.set_cons_zero]; rfl)))
      | ((with_reducible apply S_len_isB); (case hx => rfl); (case hb => assumption); (case hs => (simp only [aput, List.set_cons_succ, List.set_cons_zero]; rfl)))
      | ((with_reducible apply S_eq8); (case hx => rfl); (case hy => rfl); (case hs => (simp only [aput, List.set_cons_succ, List.set_cons_zero]; rfl)))
      | ((with_reducible apply S_ne8); (case hx => rfl); (case hy => rfl); (case hs => (simp only [aput, List.set_cons_succ, List.set_cons_zero]; rfl)))
      | ((with_reducible apply S_bin); (case hx => rfl); (case hy => rfl); (case ho => rfl); (case hs => (simp only [aput, List.set_cons_succ, List.set_cons_zero]; rfl)))
      | ((with_reducible apply AOPS_str); (case hx => rfl); (case hy => rfl); (case ho => rfl); (case hs => (simp only [aput, List.set_cons_succ, List.set_cons_zero]; rfl)))
      | ((with_reducible apply AOPS_beq); (case hx => rfl); (case hy => rfl); (case hs => (simp only [aput, List.set_cons_succ, List.set_cons_zero]; rfl)))
      | ((with_reducible apply AOPS_bne); (case hx => rfl); (case hy => rfl); (case hs => (simp only [aput, List.set_cons_succ, List.set_cons_zero]; rfl)))
      | ((with_reducible apply S_conv_same); (case hx => rfl); (case hb => (first | (constructor <;> omega) | omega | (simp; done) | (simp; omega))); (case hs => (simp only [aput, List.set_cons_succ, List.set_cons_zero]; rfl)))
      | ((with_reducible apply S_conv_u8); (case hx => rfl); (case hs => (simp only [aput, List.set_cons_succ, List.set_cons_zero]; rfl)))
      | ((with_reducible apply S_conv_byte); (case hx => rfl); (case hs => (simp only [aput, List.set_cons_succ, List.set_cons_zero]; rfl)))
      | ((with_reducible apply AOPS_conv); (case hx => rfl); (case hs => (simp only [aput, List.set_cons_succ, List.set_cons_zero]; rfl)))
      | ((with_reducible apply S_extract); (case hx => rfl); (case hi => rfl); (case hs => (simp only [aput, List.set_cons_succ, List.set_cons_zero]; rfl)))
      | ((with_reducible apply S_slice8_lh); (case hx => rfl); (case hy => rfl); (case hz => rfl); (case hl => rfl); (case hh => rfl); (case hlm => (first | (constructor <;> omega) | omega | (simp; done) | (simp; omega))); (case hs => (simp only [aput, List.set_cons_succ, List.set_cons_zero]; rfl)))
      | ((with_reducible apply S_slice8_h); (case hx => rfl); (case hz => rfl); (case hh => rfl); (case hlm => (first | (constructor <;> omega) | omega | (simp; done) | (simp; omega))); (case hs => (simp only [aput, List.set_cons_succ, List.set_cons_zero]; rfl)))
      | ((with_reducible apply S_slice8_l); (case hx => rfl); (case hy => rfl); (case hl => rfl); (case hlm => (first | (constructor <;> omega) | omega | (simp; done) | (simp; omega))); (case hs => (simp only [aput, List.set_cons_succ, List.set_cons_zero]; rfl)))
      | ((with_reducible apply AOPS_string); (case hx => rfl); (case hb => rfl); (case hl => (first | rfl | with_reducible assumption | (simp; done) | (simp; omega) | omega)); (case hs => (simp only [aput, List.set_cons_succ, List.set_cons_zero]; rfl)))
      | ((with_reducible apply AOPS_string_nils); (case hx => rfl); (case hs => (simp only [aput, List.set_cons_succ, List.set_cons_zero]; rfl)))
      | ((with_reducible apply S_string_isB); (case hx => rfl); (case hb => assumption); (case hs => (simp only [aput, List.set_cons_succ, List.set_cons_zero]; rfl)))
      | ((with_reducible apply AOPS_bytes); (case hx => rfl); (case hs => (simp only [aput, List.set_cons_succ, List.set_cons_zero]; rfl)))
      | ((with_reducible apply S_call_val (g := 15)); (case hf => rfl); (case ha => rfl); (case h => exact anchor2_val); (case hc => exact (fun vs w => by kernel_rfl)); (case hs => (simp only [aput, List.set_cons_succ, List.set_cons_zero]; rfl)))
      | fail)
    refine ARet_ret rfl (.tmpO rfl .nil) ?_
    rfl
  have d1 : decide ((key.length : Int) > 100) = false := by simp; omega
  by_cases h2 : 100 < info.length
  · have d2 : decide ((info.length : Int) > 100) = true := by simp; omega
    repeat' (first
      | with_reducible refine AWP_seq ?_
      | with_reducible refine AWP_region ?_
      | with_reducible refine AOPS_nil ?_
      | with_reducible refine AThen_normal ?_
      | with_reducible refine AThen_ret ?_
      | with_reducible refine AThen_exit ?_
      | with_reducible refine ARound_ret ?_
      | with_reducible refine ARound_exit ?_
      | with_reducible refine AWP_skip ?_
      | with_reducible refine AWP_ret ?_
      | with_reducible refine AWP_exit ?_
      | ((with_reducible apply AWP_cond_t); (case hc => rfl); (case hb => (first | with_reducible assumption | with_reducible rfl | (simp only [d1, d2]; done) | (simp; done) | (simp; omega))))
      | ((with_reducible apply AWP_cond_f); (case hc => rfl); (case hb => (first | with_reducible assumption | with_reducible rfl | (simp only [d1, d2]; done) | (simp; done) | (simp; omega))))
      | ((with_reducible apply AOPS_guard_yes); (case hy => rfl); (case hb => (first | with_reducible assumption | with_reducible rfl | (simp only [d1, d2]; done) | (simp; done) | (simp; omega))))
      | ((with_reducible apply AOPS_guard_no); (case hy => rfl); (case hb => (first | with_reducible assumption | with_reducible rfl | (simp only [d1, d2]; done) | (simp; done) | (simp; omega))); (case hs => (simp only [aput, List.set_cons_succ, List.set_cons_zero]; rfl)))
      | ((with_reducible apply AOPS_guard_und); (case hy => rfl); (case hs => (simp only [aput, List.set_cons_succ, List.set_cons_zero]; rfl)))
      | ((with_reducible apply S_move); (case hx => rfl); (case hs => (simp only [aput, List.set_cons_succ, List.set_cons_zero]; rfl)))
      | ((with_reducible apply S_assign); (case hx => rfl); (case hs => (simp only [aput, List.set_cons_succ, List.set_cons_zero]; rfl)))
      | ((with_reducible apply S_pick_t); (case hc => rfl); (case hb => (first | with_reducible assumption | with_reducible rfl | (simp only [d1, d2]; done) | (simp; done) | (simp; omega))); (case hx => rfl); (case hs => (simp only [aput, List.set_cons_succ, List.set_cons_zero]; rfl)))
      | ((with_reducible apply S_pick_f); (case hc => rfl); (case hb => (first | with_reducible assumption | with_reducible rfl | (simp only [d1, d2]; done) | (simp; done) | (simp; omega))); (case hx => rfl); (case hs => (simp only [aput, List.set_cons_succ, List.set_cons_zero]; rfl)))
      | ((with_reducible apply AOPS_not); (case hx => rfl); (case hs => (simp only [aput, List.set_cons_succ, List.set_cons_zero]; rfl)))
      | ((with_reducible apply AOPS_len_sl); (case hx => rfl); (case hs => (simp only [aput, List.set_cons_succ, List.set_cons_zero]; rfl)))
      | ((with_reducible apply AOPS_len_nils); (case hx => rfl); (case hs => (simp only [aput, List.set_cons_succ, List.set_cons_zero]; rfl)))
      | ((with_reducible apply AOPS_len_row); (case hx => rfl); (case hs => (simp only [aput, List.set_cons_succ, List.set_cons_zero]; rfl)))
      | ((with_reducible apply AOPS_len_str); (case hx => rfl); (case hs => (simp only [aput, List.set_cons_succ, List.set_cons_zero]; rfl)))
      | ((with_reducible apply S_len_isB); (case hx => rfl); (case hb => assumption); (case hs => (simp only [aput, List.set_cons_succ, List.set_cons_zero]; rfl)))
      | ((with_reducible apply S_eq8); (case hx => rfl); (case hy => rfl); (case hs => (simp only [aput, List.set_cons_succ, List.set_cons_zero]; rfl)))
      | ((with_reducible apply S_ne8); (case hx => rfl); (case hy => rfl); (case hs => (simp only [aput, List.set_cons_succ, List.set_cons_zero]; rfl)))
      | ((with_reducible apply S_bin); (case hx => rfl); (case hy => rfl); (case ho => rfl); (case hs => (simp only [aput, List.set_cons_succ, List.set_cons_zero]; rfl)))
      | ((with_reducible apply AOPS_str); (case hx => rfl); (case hy => rfl); (case ho => rfl); (case hs => (simp only [aput, List.set_cons_succ, List.set_cons_zero]; rfl)))
      | ((with_reducible apply AOPS_beq); (case hx => rfl); (case hy => rfl); (case hs => (simp only [aput, List.set_cons_succ, List.set_cons_zero]; rfl)))
      | ((with_reducible apply AOPS_bne); (case hx => rfl); (case hy => rfl); (case hs => (simp only [aput, List.set_cons_succ, List.set_cons_zero]; rfl)))
      | ((with_reducible apply S_conv_same); (case hx => rfl); (case hb => (first | (constructor <;> omega) | omega | (simp; done) | (simp; omega))); (case hs => (simp only [aput, List.set_cons_succ, List.set_cons_zero]; rfl)))
      | ((with_reducible apply S_conv_u8); (case hx => rfl); (case hs => (simp only [aput, List.set_cons_succ, List.set_cons_zero]; rfl)))
      | ((with_reducible apply S_conv_byte); (case hx => rfl); (case hs => (simp only [aput, List.set_cons_succ, List.set_cons_zero]; rfl)))
      | ((with_reducible apply AOPS_conv); (case hx => rfl); (case hs => (simp only [aput, List.set_cons_succ, List.set_cons_zero]; rfl)))
      | ((with_reducible apply S_extract); (case hx => rfl); (case hi => rfl); (case hs => (simp only [aput, List.set_cons_succ, List.set_cons_zero]; rfl)))
      | ((with_reducible apply S_slice8_lh); (case hx => rfl); (case hy => rfl); (case hz => rfl); (case hl => rfl); (case hh => rfl); (case hlm => (first | (constructor <;> omega) | omega | (simp; done) | (simp; omega))); (case hs => (simp only [aput, List.set_cons_succ, List.set_cons_zero]; rfl)))
      | ((with_reducible apply S_slice8_h); (case hx => rfl); (case hz => rfl); (case hh => rfl); (case hlm => (first | (constructor <;> omega) | omega | (simp; done) | (simp; omega))); (case hs => (simp only [aput, List.set_cons_succ, List.set_cons_zero]; rfl)))
      | ((with_reducible apply S_slice8_l); (case hx => rfl); (case hy => rfl); (case hl => rfl); (case hlm => (first | (constructor <;> omega) | omega | (simp; done) | (simp; omega))); (case hs => (simp only [aput, List.set_cons_succ, List.set_cons_zero]; rfl)))
      | ((with_reducible apply AOPS_string); (case hx => rfl); (case hb => rfl); (case hl => (first | rfl | with_reducible assumption | (simp; done) | (simp; omega) | omega)); (case hs => (simp only [aput, List.set_cons_succ, List.set_cons_zero]; rfl)))
      | ((with_reducible apply AOPS_string_nils); (case hx => rfl); (case hs => (simp only [aput, List.set_cons_succ, List.set_cons_zero]; rfl)))
      | ((with_reducible apply S_string_isB); (case hx => rfl); (case hb => assumption); (case hs => (simp only [aput, List.set_cons_succ, List.set_cons_zero]; rfl)))
      | ((with_reducible apply AOPS_bytes); (case hx => rfl); (case hs => (simp only [aput, List.set_cons_succ, List.set_cons_zero]; rfl)))
      | ((with_reducible apply S_call_val (g := 15)); (case hf => rfl); (case ha => rfl); (case h => exact anchor2_val); (case hc => exact (fun vs w => by kernel_rfl)); (case hs => (simp only [aput, List.set_cons_succ, List.set_cons_zero]; rfl)))
      | fail)
    refine ARet_ret rfl (.tmpO rfl .nil) ?_
    rfl
  have d2 : decide ((info.length : Int) > 100) = false := by simp; omega
  by_cases h3 : n < 0 ∨ 8160 < n
  · by_cases h4 : n < 0
    · have d3 : decide (n > 200) = false := by simp; omega
      have d4 : decide (n < 0) = true := by simpa using h4
      repeat' (first
        | with_reducible refine AWP_seq ?_
        | with_reducible refine AWP_region ?_
        | with_reducible refine AOPS_nil ?_
        | with_reducible refine AThen_normal ?_
        | with_reducible refine AThen_ret ?_
        | with_reducible refine AThen_exit ?_
        | with_reducible refine ARound_ret ?_
        | with_reducible refine ARound_exit ?_
        | with_reducible refine AWP_skip ?_
        | with_reducible refine AWP_ret ?_
        | with_reducible refine AWP_exit ?_
        | ((with_reducible apply AWP_cond_t); (case hc => rfl); (case hb => (first | with_reducible assumption | with_reducible rfl | (simp only [d1, d2, d3, d4]; done) | (simp; done) | (simp; omega))))
        | ((with_reducible apply AWP_cond_f); (case hc => rfl); (case hb => (first | with_reducible assumption | with_reducible rfl | (simp only [d1, d2, d3, d4]; done) | (simp; done) | (simp; omega))))
        | ((with_reducible apply AOPS_guard_yes); (case hy => rfl); (case hb => (first | with_reducible assumption | with_reducible rfl | (simp only [d1, d2, d3, d4]; done) | (simp; done) | (simp; omega))))
        | ((with_reducible apply AOPS_guard_no); (case hy => rfl); (case hb => (first | with_reducible assumption | with_reducible rfl | (simp only [d1, d2, d3, d4]; done) | (simp; done) | (simp; omega))); (case hs => (simp only [aput, List.set_cons_succ, List.set_cons_zero]; rfl)))
        | ((with_reducible apply AOPS_guard_und); (case hy => rfl); (case hs => (simp only [aput, List.set_cons_succ, List.set_cons_zero]; rfl)))
        | ((with_reducible apply S_move); (case hx => rfl); (case hs => (simp only [aput, List.set_cons_succ, List.set_cons_zero]; rfl)))
        | ((with_reducible apply S_assign); (case hx => rfl); (case hs => (simp only [aput, List.set_cons_succ, List.set_cons_zero]; rfl)))
        | ((with_reducible apply S_pick_t); (case hc => rfl); (case hb => (first | with_reducible assumption | with_reducible rfl | (simp only [d1, d2, d3, d4]; done) | (simp; done) | (simp; omega))); (case hx => rfl); (case hs => (simp only [aput, List.set_cons_succ, List.set_cons_zero]; rfl)))
        | ((with_reducible apply S_pick_f); (case hc => rfl); (case hb => (first | with_reducible assumption | with_reducible rfl | (simp only [d1, d2, d3, d4]; done) | (simp; done) | (simp; omega))); (case hx => rfl); (case hs => (simp only [aput, List.set_cons_succ, List.set_cons_zero]; rfl)))
        | ((with_reducible apply AOPS_not); (case hx => rfl); (case hs => (simp only [aput, List.set_cons_succ, List.set_cons_zero]; rfl)))
        | ((with_reducible apply AOPS_len_sl); (case hx => rfl); (case hs => (simp only [aput, List.set_cons_succ, List.set_cons_zero]; rfl)))
        | ((with_reducible apply AOPS_len_nils); (case hx => rfl); (case hs => (simp only [aput, List.set_cons_succ, List.set_cons_zero]; rfl)))
        | ((with_reducible apply AOPS_len_row); (case hx => rfl); (case hs => (simp only [aput, List.set_cons_succ, List.set_cons_zero]; rfl)))
        | ((with_reducible apply AOPS_len_str); (case hx => rfl); (case hs => (simp only [aput, List.set_cons_succ, List.set_cons_zero]; rfl)))
        | ((with_reducible apply S_len_isB); (case hx => rfl); (case hb => assumption); (case hs => (simp only [aput, List.set_cons_succ, List.set_cons_zero]; rfl)))
        | ((with_reducible apply S_eq8); (case hx => rfl); (case hy => rfl); (case hs => (simp only [aput, List.set_cons_succ, List.set_cons_zero]; rfl)))
        | ((with_reducible apply S_ne8); (case hx => rfl); (case hy => rfl); (case hs => (simp only [aput, List.set_cons_succ, List.set_cons_zero]; rfl)))
        | ((with_reducible apply S_bin); (case hx => rfl); (case hy => rfl); (case ho => rfl); (case hs => (simp only [aput, List.set_cons_succ, List.set_cons_zero]; rfl)))
        | ((with_reducible apply AOPS_str); (case hx => rfl); (case hy => rfl); (case ho => rfl); (case hs => (simp only [aput, List.set_cons_succ, List.set_cons_zero]; rfl)))
        | ((with_reducible apply AOPS_beq); (case hx => rfl); (case hy => rfl); (case hs => (simp only [aput, List.set_cons_succ, List.set_cons_zero]; rfl)))
        | ((with_reducible apply AOPS_bne); (case hx => rfl); (case hy => rfl); (case hs => (simp only [aput, List.set_cons_succ, List.set_cons_zero]; rfl)))
        | ((with_reducible apply S_conv_same); (case hx => rfl); (case hb => (first | (constructor <;> omega) | omega | (simp; done) | (simp; omega))); (case hs => (simp only [aput, List.set_cons_succ, List.set_cons_zero]; rfl)))
        | ((with_reducible apply S_conv_u8); (case hx => rfl); (case hs => (simp only [aput, List.set_cons_succ, List.set_cons_zero]; rfl)))
        | ((with_reducible apply S_conv_byte); (case hx => rfl); (case hs => (simp only [aput, List.set_cons_succ, List.set_cons_zero]; rfl)))
        | ((with_reducible apply AOPS_conv); (case hx => rfl); (case hs => (simp only [aput, List.set_cons_succ, List.set_cons_zero]; rfl)))
        | ((with_reducible apply S_extract); (case hx => rfl); (case hi => rfl); (case hs => (simp only [aput, List.set_cons_succ, List.set_cons_zero]; rfl)))
        | ((with_reducible apply S_slice8_lh); (case hx => rfl); (case hy => rfl); (case hz => rfl); (case hl => rfl); (case hh => rfl); (case hlm => (first | (constructor <;> omega) | omega | (simp; done) | (simp; omega))); (case hs => (simp only [aput, List.set_cons_succ, List.set_cons_zero]; rfl)))
        | ((with_reducible apply S_slice8_h); (case hx => rfl); (case hz => rfl); (case hh => rfl); (case hlm => (first | (constructor <;> omega) | omega | (simp; done) | (simp; omega))); (case hs => (simp only [aput, List.set_cons_succ, List.set_cons_zero]; rfl)))
        | ((with_reducible apply S_slice8_l); (case hx => rfl); (case hy => rfl); (case hl => rfl); (case hlm => (first | (constructor <;> omega) | omega | (simp; done) | (simp; omega))); (case hs => (simp only [aput, List.set_cons_succ, List.set_cons_zero]; rfl)))
        | ((with_reducible apply AOPS_string); (case hx => rfl); (case hb => rfl); (case hl => (first | rfl | with_reducible assumption | (simp; done) | (simp; omega) | omega)); (case hs => (simp only [aput, List.set_cons_succ, List.set_cons_zero]; rfl)))
        | ((with_reducible apply AOPS_string_nils); (case hx => rfl); (case hs => (simp only [aput, List.set_cons_succ, List.set_cons_zero]; rfl)))
        | ((with_reducible apply S_string_isB); (case hx => rfl); (case hb => assumption); (case hs => (simp only [aput, List.set_cons_succ, List.set_cons_zero]; rfl)))
        | ((with_reducible apply AOPS_bytes); (case hx => rfl); (case hs => (simp only [aput, List.set_cons_succ, List.set_cons_zero]; rfl)))
        | ((with_reducible apply S_call_val (g := 15)); (case hf => rfl); (case ha => rfl); (case h => exact anchor2_val); (case hc => exact (fun vs w => by kernel_rfl)); (case hs => (simp only [aput, List.set_cons_succ, List.set_cons_zero]; rfl)))
        | ((with_reducible apply S_call_val (g := 21)); (case hf => rfl); (case ha => rfl); (case h => exact (expand_err_val (key := key) (info := info) (.mk_ _ _) (.mk_ _ _) h3)); (case hc => exact (fun vs w => by kernel_rfl)); (case hs => (simp only [aput, List.set_cons_succ, List.set_cons_zero]; rfl)))
        | fail)
      refine ARet_ret rfl (.tmpO rfl .nil) ?_
      rfl
    · have d3 : decide (n > 200) = true := by simp; omega
      have d4 : decide (n < 0) = false := by simpa using h4
      have d5 : decide (n ≤ 8160) = false := by simp; omega
      have d6 : decide (n > 8160) = true := by simp; omega
      repeat' (first
        | with_reducible refine AWP_seq ?_
        | with_reducible refine AWP_region ?_
        | with_reducible refine AOPS_nil ?_
        | with_reducible refine AThen_normal ?_
        | with_reducible refine AThen_ret ?_
        | with_reducible refine AThen_exit ?_
        | with_reducible refine ARound_ret ?_
        | with_reducible refine ARound_exit ?_
        | with_reducible refine AWP_skip ?_
        | with_reducible refine AWP_ret ?_
        | with_reducible refine AWP_exit ?_
        | ((with_reducible apply AWP_cond_t); (case hc => rfl); (case hb => (first | with_reducible assumption | with_reducible rfl | (simp only [d1, d2, d3, d4, d5, d6]; done) | (simp; done) | (simp; omega))))
        | ((with_reducible apply AWP_cond_f); (case hc => rfl); (case hb => (first | with_reducible assumption | with_reducible rfl | (simp only [d1, d2, d3, d4, d5, d6]; done) | (simp; done) | (simp; omega))))
        | ((with_reducible apply AOPS_guard_yes); (case hy => rfl); (case hb => (first | with_reducible assumption | with_reducible rfl | (simp only [d1, d2, d3, d4, d5, d6]; done) | (simp; done) | (simp; omega))))
        | ((with_reducible apply AOPS_guard_no); (case hy => rfl); (case hb => (first | with_reducible assumption | with_reducible rfl | (simp only [d1, d2, d3, d4, d5, d6]; done) | (simp; done) | (simp; omega))); (case hs => (simp only [aput, List.set_cons_succ, List.set_cons_zero]; rfl)))
        | ((with_reducible apply AOPS_guard_und); (case hy => rfl); (case hs => (simp only [aput, List.set_cons_succ, List.set_cons_zero]; rfl)))
        | ((with_reducible apply S_move); (case hx => rfl); (case hs => (simp only [aput, List.set_cons_succ, List.set_cons_zero]; rfl)))
        | ((with_reducible apply S_assign); (case hx => rfl); (case hs => (simp only [aput, List.set_cons_succ, List.set_cons_zero]; rfl)))
        | ((with_reducible apply S_pick_t); (case hc => rfl); (case hb => (first | with_reducible assumption | with_reducible rfl | (simp only [d1, d2, d3, d4, d5, d6]; done) | (simp; done) | (simp; omega))); (case hx => rfl); (case hs => (simp only [aput, List.set_cons_succ, List.set_cons_zero]; rfl)))
        | ((with_reducible apply S_pick_f); (case hc => rfl); (case hb => (first | with_reducible assumption | with_reducible rfl | (simp only [d1, d2, d3, d4, d5, d6]; done) | (simp; done) | (simp; omega))); (case hx => rfl); (case hs => (simp only [aput, List.set_cons_succ, List.set_cons_zero]; rfl)))
        | ((with_reducible apply AOPS_not); (case hx => rfl); (case hs => (simp only [aput, List.set_cons_succ, List.set_cons_zero]; rfl)))
        | ((with_reducible apply AOPS_len_sl); (case hx => rfl); (case hs => (simp only [aput, List.set_cons_succ, List.set_cons_zero]; rfl)))
        | ((with_reducible apply AOPS_len_nils); (case hx => rfl); (case hs => (simp only [aput, List.set_cons_succ, List.set_cons_zero]; rfl)))
        | ((with_reducible apply AOPS_len_row); (case hx => rfl); (case hs => (simp only [aput, List.set_cons_succ, List.set_cons_zero]; rfl)))
        | ((with_reducible apply AOPS_len_str); (case hx => rfl); (case hs => (simp only [aput, List.set_cons_succ, List.set_cons_zero]; rfl)))
        | ((with_reducible apply S_len_isB); (case hx => rfl); (case hb => assumption); (case hs => (simp only [aput, List.set_cons_succ, List.set_cons_zero]; rfl)))
        | ((with_reducible apply S_eq8); (case hx => rfl); (case hy => rfl); (case hs => (simp only [aput, List.set_cons_succ, List.set_cons_zero]; rfl)))
        | ((with_reducible apply S_ne8); (case hx => rfl); (case hy => rfl); (case hs => (simp only [aput, List.set_cons_succ, List.set_cons_zero]; rfl)))
        | ((with_reducible apply S_bin); (case hx => rfl); (case hy => rfl); (case ho => rfl); (case hs => (simp only [aput, List.set_cons_succ, List.set_cons_zero]; rfl)))
        | ((with_reducible apply AOPS_str); (case hx => rfl); (case hy => rfl); (case ho => rfl); (case hs => (simp only [aput, List.set_cons_succ, List.set_cons_zero]; rfl)))
        | ((with_reducible apply AOPS_beq); (case hx => rfl); (case hy => rfl); (case hs => (simp only [aput, List.set_cons_succ, List.set_cons_zero]; rfl)))
        | ((with_reducible apply AOPS_bne); (case hx => rfl); (case hy => rfl); (case hs => (simp only [aput, List.set_cons_succ, List.set_cons_zero]; rfl)))
        | ((with_reducible apply S_conv_same); (case hx => rfl); (case hb => (first | (constructor <;> omega) | omega | (simp; done) | (simp; omega))); (case hs => (simp only [aput, List.set_cons_succ, List.set_cons_zero]; rfl)))
        | ((with_reducible apply S_conv_u8); (case hx => rfl); (case hs => (simp only [aput, List.set_cons_succ, List.set_cons_zero]; rfl)))
        | ((with_reducible apply S_conv_byte); (case hx => rfl); (case hs => (simp only [aput, List.set_cons_succ, List.set_cons_zero]; rfl)))
        | ((with_reducible apply AOPS_conv); (case hx => rfl); (case hs => (simp only [aput, List.set_cons_succ, List.set_cons_zero]; rfl)))
        | ((with_reducible apply S_extract); (case hx => rfl); (case hi => rfl); (case hs => (simp only [aput, List.set_cons_succ, List.set_cons_zero]; rfl)))
        | ((with_reducible apply S_slice8_lh); (case hx => rfl); (case hy => rfl); (case hz => rfl); (case hl => rfl); (case hh => rfl); (case hlm => (first | (constructor <;> omega) | omega | (simp; done) | (simp; omega))); (case hs => (simp only [aput, List.set_cons_succ, List.set_cons_zero]; rfl)))
        | ((with_reducible apply S_slice8_h); (case hx => rfl); (case hz => rfl); (case hh => rfl); (case hlm => (first | (constructor <;> omega) | omega | (simp; done) | (simp; omega))); (case hs => (simp only [aput, List.set_cons_succ, List.set_cons_zero]; rfl)))
        | ((with_reducible apply S_slice8_l); (case hx => rfl); (case hy => rfl); (case hl => rfl); (case hlm => (first | (constructor <;> omega) | omega | (simp; done) | (simp; omega))); (case hs => (simp only [aput, List.set_cons_succ, List.set_cons_zero]; rfl)))
        | ((with_reducible apply AOPS_string); (case hx => rfl); (case hb => rfl); (case hl => (first | rfl | with_reducible assumption | (simp; done) | (simp; omega) | omega)); (case hs => (simp only [aput, List.set_cons_succ, List.set_cons_zero]; rfl)))
        | ((with_reducible apply AOPS_string_nils); (case hx => rfl); (case hs => (simp only [aput, List.set_cons_succ, List.set_cons_zero]; rfl)))
        | ((with_reducible apply S_string_isB); (case hx => rfl); (case hb => assumption); (case hs => (simp only [aput, List.set_cons_succ, List.set_cons_zero]; rfl)))
        | ((with_reducible apply AOPS_bytes); (case hx => rfl); (case hs => (simp only [aput, List.set_cons_succ, List.set_cons_zero]; rfl)))
        | ((with_reducible apply S_call_val (g := 15)); (case hf => rfl); (case ha => rfl); (case h => exact anchor2_val); (case hc => exact (fun vs w => by kernel_rfl)); (case hs => (simp only [aput, List.set_cons_succ, List.set_cons_zero]; rfl)))
        | ((with_reducible apply S_call_val (g := 21)); (case hf => rfl); (case ha => rfl); (case h => exact (expand_err_val (key := key) (info := info) (.mk_ _ _) (.mk_ _ _) h3)); (case hc => exact (fun vs w => by kernel_rfl)); (case hs => (simp only [aput, List.set_cons_succ, List.set_cons_zero]; rfl)))
        | fail)
      refine ARet_ret rfl (.tmpO rfl .nil) ?_
      rfl
  have d4 : decide (n < 0) = false := by simp; omega
  have d5 : decide (n ≤ 8160) = true := by simp; omega
  have d6 : decide (n > 8160) = false := by simp; omega
  by_cases h5 : 200 < n
  · have d3 : decide (n > 200) = true := by simp; omega
    repeat' (first
      | with_reducible refine AWP_seq ?_
      | with_reducible refine AWP_region ?_
      | with_reducible refine AOPS_nil ?_
      | with_reducible refine AThen_normal ?_
      | with_reducible refine AThen_ret ?_
      | with_reducible refine AThen_exit ?_
      | with_reducible refine ARound_ret ?_
      | with_reducible refine ARound_exit ?_
      | with_reducible refine AWP_skip ?_
      | with_reducible refine AWP_ret ?_
      | with_reducible refine AWP_exit ?_
      | ((with_reducible apply AWP_cond_t); (case hc => rfl); (case hb => (first | with_reducible assumption | with_reducible rfl | (simp only [d1, d2, d3, d4, d5, d6]; done) | (simp; done) | (simp; omega))))
      | ((with_reducible apply AWP_cond_f); (case hc => rfl); (case hb => (first | with_reducible assumption | with_reducible rfl | (simp only [d1, d2, d3, d4, d5, d6]; done) | (simp; done) | (simp; omega))))
      | ((with_reducible apply AOPS_guard_yes); (case hy => rfl); (case hb => (first | with_reducible assumption | with_reducible rfl | (simp only [d1, d2, d3, d4, d5, d6]; done) | (simp; done) | (simp; omega))))
      | ((with_reducible apply AOPS_guard_no); (case hy => rfl); (case hb => (first | with_reducible assumption | with_reducible rfl | (simp only [d1, d2, d3, d4, d5, d6]; done) | (simp; done) | (simp; omega))); (case hs => (simp only [aput, List.set_cons_succ, List.set_cons_zero]; rfl)))
      | ((with_reducible apply AOPS_guard_und); (case hy => rfl); (case hs => (simp only [aput, List.set_cons_succ, List.set_cons_zero]; rfl)))
      | ((with_reducible apply S_move); (case hx => rfl); (case hs => (simp only [aput, List.set_cons_succ, List.set_cons_zero]; rfl)))
      | ((with_reducible apply S_assign); (case hx => rfl); (case hs => (simp only [aput, List.set_cons_succ, List.set_cons_zero]; rfl)))
      | ((with_reducible apply S_pick_t); (case hc => rfl); (case hb => (first | with_reducible assumption | with_reducible rfl | (simp only [d1, d2, d3, d4, d5, d6]; done) | (simp; done) | (simp; omega))); (case hx => rfl); (case hs => (simp only [aput, List.set_cons_succ, List.set_cons_zero]; rfl)))
      | ((with_reducible apply S_pick_f); (case hc => rfl); (case hb => (first | with_reducible assumption | with_reducible rfl | (simp only [d1, d2, d3, d4, d5, d6]; done) | (simp; done) | (simp; omega))); (case hx => rfl); (case hs => (simp only [aput, List.set_cons_succ, List.set_cons_zero]; rfl)))
      | ((with_reducible apply AOPS_not); (case hx => rfl); (case hs => (simp only [aput, List.set_cons_succ, List.set_cons_zero]; rfl)))
      | ((with_reducible apply AOPS_len_sl); (case hx => rfl); (case hs => (simp only [aput, List.set_cons_succ, List.set_cons_zero]; rfl)))
      | ((with_reducible apply AOPS_len_nils); (case hx => rfl); (case hs => (simp only [aput, List.set_cons_succ, List.set_cons_zero]; rfl)))
      | ((with_reducible apply AOPS_len_row); (case hx => rfl); (case hs => (simp only [aput, List.set_cons_succ, List.set_cons_zero]; rfl)))
      | ((with_reducible apply AOPS_len_str); (case hx => rfl); (case hs => (simp only [aput, List.set_cons_succ, List.set_cons_zero]; rfl)))
      | ((with_reducible apply S_len_isB); (case hx => rfl); (case hb => assumption); (case hs => (simp only [aput, List.set_cons_succ, List.set_cons_zero]; rfl)))
      | ((with_reducible apply S_eq8); (case hx => rfl); (case hy => rfl); (case hs => (simp only [aput, List.set_cons_succ, List.set_cons_zero]; rfl)))
      | ((with_reducible apply S_ne8); (case hx => rfl); (case hy => rfl); (case hs => (simp only [aput, List.set_cons_succ, List.set_cons_zero]; rfl)))
      | ((with_reducible apply S_bin); (case hx => rfl); (case hy => rfl); (case ho => rfl); (case hs => (simp only [aput, List.set_cons_succ, List.set_cons_zero]; rfl)))
      | ((with_reducible apply AOPS_str); (case hx => rfl); (case hy => rfl); (case ho => rfl); (case hs => (simp only [aput, List.set_cons_succ, List.set_cons_zero]; rfl)))
      | ((with_reducible apply AOPS_beq); (case hx => rfl); (case hy => rfl); (case hs => (simp only [aput, List.set_cons_succ, List.set_cons_zero]; rfl)))
      | ((with_reducible apply AOPS_bne); (case hx => rfl); (case hy => rfl); (case hs => (simp only [aput, List.set_cons_succ, List.set_cons_zero]; rfl)))
      | ((with_reducible apply S_conv_same); (case hx => rfl); (case hb => (first | (constructor <;> omega) | omega | (simp; done) | (simp; omega))); (case hs => (simp only [aput, List.set_cons_succ, List.set_cons_zero]; rfl)))
      | ((with_reducible apply S_conv_u8); (case hx => rfl); (case hs => (simp only [aput, List.set_cons_succ, List.set_cons_zero]; rfl)))
      | ((with_reducible apply S_conv_byte); (case hx => rfl); (case hs => (simp only [aput, List.set_cons_succ, List.set_cons_zero]; rfl)))
      | ((with_reducible apply AOPS_conv); (case hx => rfl); (case hs => (simp only [aput, List.set_cons_succ, List.set_cons_zero]; rfl)))
      | ((with_reducible apply S_extract); (case hx => rfl); (case hi => rfl); (case hs => (simp only [aput, List.set_cons_succ, List.set_cons_zero]; rfl)))
      | ((with_reducible apply S_slice8_lh); (case hx => rfl); (case hy => rfl); (case hz => rfl); (case hl => rfl); (case hh => rfl); (case hlm => (first | (constructor <;> omega) | omega | (simp; done) | (simp; omega))); (case hs => (simp only [aput, List.set_cons_succ, List.set_cons_zero]; rfl)))
      | ((with_reducible apply S_slice8_h); (case hx => rfl); (case hz => rfl); (case hh => rfl); (case hlm => (first | (constructor <;> omega) | omega | (simp; done) | (simp; omega))); (case hs => (simp only [aput, List.set_cons_succ, List.set_cons_zero]; rfl)))
      | ((with_reducible apply S_slice8_l); (case hx => rfl); (case hy => rfl); (case hl => rfl); (case hlm => (first | (constructor <;> omega) | omega | (simp; done) | (simp; omega))); (case hs => (simp only [aput, List.set_cons_succ, List.set_cons_zero]; rfl)))
      | ((with_reducible apply AOPS_string); (case hx => rfl); (case hb => rfl); (case hl => (first | rfl | with_reducible assumption | (simp; done) | (simp; omega) | omega)); (case hs => (simp only [aput, List.set_cons_succ, List.set_cons_zero]; rfl)))
      | ((with_reducible apply AOPS_string_nils); (case hx => rfl); (case hs => (simp only [aput, List.set_cons_succ, List.set_cons_zero]; rfl)))
      | ((with_reducible apply S_string_isB); (case hx => rfl); (case hb => assumption); (case hs => (simp only [aput, List.set_cons_succ, List.set_cons_zero]; rfl)))
      | ((with_reducible apply AOPS_bytes); (case hx => rfl); (case hs => (simp only [aput, List.set_cons_succ, List.set_cons_zero]; rfl)))
      | ((with_reducible apply S_call_val (g := 15)); (case hf => rfl); (case ha => rfl); (case h => exact anchor2_val); (case hc => exact (fun vs w => by kernel_rfl)); (case hs => (simp only [aput, List.set_cons_succ, List.set_cons_zero]; rfl)))
      | fail)
    refine ARet_ret rfl (.tmpO rfl .nil) ?_
    rfl
  obtain ⟨N, rfl⟩ := Int.eq_ofNat_of_zero_le (show 0 ≤ n by omega)
  have d3 : decide ((N : Int) > 200) = false := by simp; omega
  have hN : (exN key info N).length = N := exN_length _ _ (by omega)
  have q1 : (!(exN key info N == exN key info N)) = false := by simp
  by_cases h6 : fewer < 0 ∨ (N : Int) < fewer
  · by_cases h7 : fewer < 0
    · have d7 : decide (fewer < 0) = true := by simpa using h7
      repeat' (first
        | with_reducible refine AWP_seq ?_
        | with_reducible refine AWP_region ?_
        | with_reducible refine AOPS_nil ?_
        | with_reducible refine AThen_normal ?_
        | with_reducible refine AThen_ret ?_
        | with_reducible refine AThen_exit ?_
        | with_reducible refine ARound_ret ?_
        | with_reducible refine ARound_exit ?_
        | with_reducible refine AWP_skip ?_
        | with_reducible refine AWP_ret ?_
        | with_reducible refine AWP_exit ?_
        | ((with_reducible apply AWP_cond_t); (case hc => rfl); (case hb => (first | with_reducible assumption | with_reducible rfl | (simp only [d1, d2, d3, d4, d5, d6, d7, q1]; done) | (simp; done) | (simp; omega))))
        | ((with_reducible apply AWP_cond_f); (case hc => rfl); (case hb => (first | with_reducible assumption | with_reducible rfl | (simp only [d1, d2, d3, d4, d5, d6, d7, q1]; done) | (simp; done) | (simp; omega))))
        | ((with_reducible apply AOPS_guard_yes); (case hy => rfl); (case hb => (first | with_reducible assumption | with_reducible rfl | (simp only [d1, d2, d3, d4, d5, d6, d7, q1]; done) | (simp; done) | (simp; omega))))
        | ((with_reducible apply AOPS_guard_no); (case hy => rfl); (case hb => (first | with_reducible assumption | with_reducible rfl | (simp only [d1, d2, d3, d4, d5, d6, d7, q1]; done) | (simp; done) | (simp; omega))); (case hs => (simp only [aput, List.set_cons_succ, List.set_cons_zero]; rfl)))
        | ((with_reducible apply AOPS_guard_und); (case hy => rfl); (case hs => (simp only [aput, List.set_cons_succ, List.set_cons_zero]; rfl)))
        | ((with_reducible apply S_move); (case hx => rfl); (case hs => (simp only [aput, List.set_cons_succ, List.set_cons_zero]; rfl)))
        | ((with_reducible apply S_assign); (case hx => rfl); (case hs => (simp only [aput, List.set_cons_succ, List.set_cons_zero]; rfl)))
        | ((with_reducible apply S_pick_t); (case hc => rfl); (case hb => (first | with_reducible assumption | with_reducible rfl | (simp only [d1, d2, d3, d4, d5, d6, d7, q1]; done) | (simp; done) | (simp; omega))); (case hx => rfl); (case hs => (simp only [aput, List.set_cons_succ, List.set_cons_zero]; rfl)))
        | ((with_reducible apply S_pick_f); (case hc => rfl); (case hb => (first | with_reducible assumption | with_reducible rfl | (simp only [d1, d2, d3, d4, d5, d6, d7, q1]; done) | (simp; done) | (simp; omega))); (case hx => rfl); (case hs => (simp only [aput, List.set_cons_succ, List.set_cons_zero]; rfl)))
        | ((with_reducible apply AOPS_not); (case hx => rfl); (case hs => (simp only [aput, List.set_cons_succ, List.set_cons_zero]; rfl)))
        | ((with_reducible apply AOPS_len_sl); (case hx => rfl); (case hs => (simp only [aput, List.set_cons_succ, List.set_cons_zero]; rfl)))
        | ((with_reducible apply AOPS_len_nils); (case hx => rfl); (case hs => (simp only [aput, List.set_cons_succ, List.set_cons_zero]; rfl)))
        | ((with_reducible apply AOPS_len_row); (case hx => rfl); (case hs => (simp only [aput, List.set_cons_succ, List.set_cons_zero]; rfl)))
        | ((with_reducible apply AOPS_len_str); (case hx => rfl); (case hs => (simp only [aput, List.set_cons_succ, List.set_cons_zero]; rfl)))
        | ((with_reducible apply S_len_isB); (case hx => rfl); (case hb => assumption); (case hs => (simp only [aput, List.set_cons_succ, List.set_cons_zero]; rfl)))
        | ((with_reducible apply S_eq8); (case hx => rfl); (case hy => rfl); (case hs => (simp only [aput, List.set_cons_succ, List.set_cons_zero]; rfl)))
        | ((with_reducible apply S_ne8); (case hx => rfl); (case hy => rfl); (case hs => (simp only [aput, List.set_cons_succ, List.set_cons_zero]; rfl)))
        | ((with_reducible apply S_bin); (case hx => rfl); (case hy => rfl); (case ho => rfl); (case hs => (simp only [aput, List.set_cons_succ, List.set_cons_zero]; rfl)))
        | ((with_reducible apply AOPS_str); (case hx => rfl); (case hy => rfl); (case ho => rfl); (case hs => (simp only [aput, List.set_cons_succ, List.set_cons_zero]; rfl)))
        | ((with_reducible apply AOPS_beq); (case hx => rfl); (case hy => rfl); (case hs => (simp only [aput, List.set_cons_succ, List.set_cons_zero]; rfl)))
        | ((with_reducible apply AOPS_bne); (case hx => rfl); (case hy => rfl); (case hs => (simp only [aput, List.set_cons_succ, List.set_cons_zero]; rfl)))
        | ((with_reducible apply S_conv_same); (case hx => rfl); (case hb => (first | (constructor <;> omega) | omega | (simp; done) | (simp; omega))); (case hs => (simp only [aput, List.set_cons_succ, List.set_cons_zero]; rfl)))
        | ((with_reducible apply S_conv_u8); (case hx => rfl); (case hs => (simp only [aput, List.set_cons_succ, List.set_cons_zero]; rfl)))
        | ((with_reducible apply S_conv_byte); (case hx => rfl); (case hs => (simp only [aput, List.set_cons_succ, List.set_cons_zero]; rfl)))
        | ((with_reducible apply AOPS_conv); (case hx => rfl); (case hs => (simp only [aput, List.set_cons_succ, List.set_cons_zero]; rfl)))
        | ((with_reducible apply S_extract); (case hx => rfl); (case hi => rfl); (case hs => (simp only [aput, List.set_cons_succ, List.set_cons_zero]; rfl)))
        | ((with_reducible apply S_slice8_lh); (case hx => rfl); (case hy => rfl); (case hz => rfl); (case hl => rfl); (case hh => rfl); (case hlm => (first | (constructor <;> omega) | omega | (simp; done) | (simp; omega))); (case hs => (simp only [aput, List.set_cons_succ, List.set_cons_zero]; rfl)))
        | ((with_reducible apply S_slice8_h); (case hx => rfl); (case hz => rfl); (case hh => rfl); (case hlm => (first | (constructor <;> omega) | omega | (simp; done) | (simp; omega))); (case hs => (simp only [aput, List.set_cons_succ, List.set_cons_zero]; rfl)))
        | ((with_reducible apply S_slice8_l); (case hx => rfl); (case hy => rfl); (case hl => rfl); (case hlm => (first | (constructor <;> omega) | omega | (simp; done) | (simp; omega))); (case hs => (simp only [aput, List.set_cons_succ, List.set_cons_zero]; rfl)))
        | ((with_reducible apply AOPS_string); (case hx => rfl); (case hb => rfl); (case hl => (first | rfl | with_reducible assumption | (simp; done) | (simp; omega) | omega)); (case hs => (simp only [aput, List.set_cons_succ, List.set_cons_zero]; rfl)))
        | ((with_reducible apply AOPS_string_nils); (case hx => rfl); (case hs => (simp only [aput, List.set_cons_succ, List.set_cons_zero]; rfl)))
        | ((with_reducible apply S_string_isB); (case hx => rfl); (case hb => assumption); (case hs => (simp only [aput, List.set_cons_succ, List.set_cons_zero]; rfl)))
        | ((with_reducible apply AOPS_bytes); (case hx => rfl); (case hs => (simp only [aput, List.set_cons_succ, List.set_cons_zero]; rfl)))
        | ((with_reducible apply S_call_val (g := 15)); (case hf => rfl); (case ha => rfl); (case h => exact anchor2_val); (case hc => exact (fun vs w => by kernel_rfl)); (case hs => (simp only [aput, List.set_cons_succ, List.set_cons_zero]; rfl)))
        | ((with_reducible apply S_call_val (g := 21)); (case hf => rfl); (case ha => rfl); (case h => exact (expand_val (key := key) (info := info) (.mk_ _ _) (.mk_ _ _) (by omega) (by omega) (by omega))); (case hc => exact (fun vs w => by kernel_rfl)); (case hs => (simp only [aput, List.set_cons_succ, List.set_cons_zero]; rfl)))
        | ((with_reducible apply S_call_val (g := 22)); (case hf => rfl); (case ha => rfl); (case h => exact (rexpand_val (key := key) (info := info) (.mk_ _ _) (.mk_ _ _) (by omega) (by omega) (by omega))); (case hc => exact (fun vs w => by kernel_rfl)); (case hs => (simp only [aput, List.set_cons_succ, List.set_cons_zero]; rfl)))
        | with_reducible refine ATK_nil ?_
        | with_reducible refine AAnyQ_normal ?_
        | ((with_reducible apply ATK_guard_yes); (case hy => rfl); (case hb => (first | with_reducible assumption | with_reducible rfl | (simp only [d1, d2, d3, d4, d5, d6, d7, q1]; done) | (simp; done) | (simp; omega))))
        | ((with_reducible apply ATK_guard_no); (case hy => rfl); (case hb => (first | with_reducible assumption | with_reducible rfl | (simp only [d1, d2, d3, d4, d5, d6, d7, q1]; done) | (simp; done) | (simp; omega))); (case hs => (simp only [aput, List.set_cons_succ, List.set_cons_zero]; rfl)))
        | ((with_reducible apply ATK_guard_und); (case hy => rfl); (case hs => (simp only [aput, List.set_cons_succ, List.set_cons_zero]; rfl)))
        | ((with_reducible apply TS_move); (case hx => rfl); (case hs => (simp only [aput, List.set_cons_succ, List.set_cons_zero]; rfl)))
        | ((with_reducible apply TS_assign); (case hx => rfl); (case hs => (simp only [aput, List.set_cons_succ, List.set_cons_zero]; rfl)))
        | ((with_reducible apply TS_pick_t); (case hc => rfl); (case hb => (first | with_reducible assumption | with_reducible rfl | (simp only [d1, d2, d3, d4, d5, d6, d7, q1]; done) | (simp; done) | (simp; omega))); (case hx => rfl); (case hs => (simp only [aput, List.set_cons_succ, List.set_cons_zero]; rfl)))
        | ((with_reducible apply TS_pick_f); (case hc => rfl); (case hb => (first | with_reducible assumption | with_reducible rfl | (simp only [d1, d2, d3, d4, d5, d6, d7, q1]; done) | (simp; done) | (simp; omega))); (case hx => rfl); (case hs => (simp only [aput, List.set_cons_succ, List.set_cons_zero]; rfl)))
        | ((with_reducible apply TS_eq8); (case hx => rfl); (case hy => rfl); (case hs => (simp only [aput, List.set_cons_succ, List.set_cons_zero]; rfl)))
        | ((with_reducible apply TS_ne8); (case hx => rfl); (case hy => rfl); (case hs => (simp only [aput, List.set_cons_succ, List.set_cons_zero]; rfl)))
        | ((with_reducible apply TS_bin); (case hx => rfl); (case hy => rfl); (case ho => rfl); (case hs => (simp only [aput, List.set_cons_succ, List.set_cons_zero]; rfl)))
        | ((with_reducible apply ATK_str); (case hx => rfl); (case hy => rfl); (case ho => rfl); (case hs => (simp only [aput, List.set_cons_succ, List.set_cons_zero]; rfl)))
        | ((with_reducible apply ATK_beq); (case hx => rfl); (case hy => rfl); (case hs => (simp only [aput, List.set_cons_succ, List.set_cons_zero]; rfl)))
        | ((with_reducible apply ATK_bne); (case hx => rfl); (case hy => rfl); (case hs => (simp only [aput, List.set_cons_succ, List.set_cons_zero]; rfl)))
        | ((with_reducible apply TS_conv_same); (case hx => rfl); (case hb => (first | (constructor <;> omega) | omega | (simp; done) | (simp; omega))); (case hs => (simp only [aput, List.set_cons_succ, List.set_cons_zero]; rfl)))
        | ((with_reducible apply TS_conv_u8); (case hx => rfl); (case hs => (simp only [aput, List.set_cons_succ, List.set_cons_zero]; rfl)))
        | ((with_reducible apply TS_conv_byte); (case hx => rfl); (case hs => (simp only [aput, List.set_cons_succ, List.set_cons_zero]; rfl)))
        | ((with_reducible apply ATK_conv); (case hx => rfl); (case hs => (simp only [aput, List.set_cons_succ, List.set_cons_zero]; rfl)))
        | ((with_reducible apply TS_slice8_lh); (case hx => rfl); (case hy => rfl); (case hz => rfl); (case hl => rfl); (case hh => rfl); (case hlm => (first | (constructor <;> omega) | omega | (simp; done) | (simp; omega))); (case hs => (simp only [aput, List.set_cons_succ, List.set_cons_zero]; rfl)))
        | ((with_reducible apply TS_slice8_h); (case hx => rfl); (case hz => rfl); (case hh => rfl); (case hlm => (first | (constructor <;> omega) | omega | (simp; done) | (simp; omega))); (case hs => (simp only [aput, List.set_cons_succ, List.set_cons_zero]; rfl)))
        | ((with_reducible apply TS_slice8_l); (case hx => rfl); (case hy => rfl); (case hl => rfl); (case hlm => (first | (constructor <;> omega) | omega | (simp; done) | (simp; omega))); (case hs => (simp only [aput, List.set_cons_succ, List.set_cons_zero]; rfl)))
        | ((with_reducible apply ATK_string); (case hx => rfl); (case hb => rfl); (case hl => (first | rfl | with_reducible assumption | (simp; done) | (simp; omega) | omega)); (case hs => (simp only [aput, List.set_cons_succ, List.set_cons_zero]; rfl)))
        | ((with_reducible apply ATK_string_nils); (case hx => rfl); (case hs => (simp only [aput, List.set_cons_succ, List.set_cons_zero]; rfl)))
        | ((with_reducible apply TS_string_isB); (case hx => rfl); (case hb => assumption); (case hs => (simp only [aput, List.set_cons_succ, List.set_cons_zero]; rfl)))
        | ((with_reducible apply AWP_draw (n := 12)); (case hm => kernel_rfl); (case hn => rfl))
        | ((with_reducible apply AANY_done); (case hr => decide +kernel))
        | ((with_reducible apply AANY_take (i := 0)); (case hn => rfl); (case hr => decide +kernel); (case ho => rfl); (case hs => kernel_rfl); (case hf => decide +kernel))
        | ((with_reducible apply AANY_take (i := 1)); (case hn => rfl); (case hr => decide +kernel); (case ho => rfl); (case hs => kernel_rfl); (case hf => decide +kernel))
        | ((with_reducible apply AANY_take (i := 2)); (case hn => rfl); (case hr => decide +kernel); (case ho => rfl); (case hs => kernel_rfl); (case hf => decide +kernel))
        | ((with_reducible apply AANY_take (i := 3)); (case hn => rfl); (case hr => decide +kernel); (case ho => rfl); (case hs => kernel_rfl); (case hf => decide +kernel))
        | ((with_reducible apply AANY_take (i := 4)); (case hn => rfl); (case hr => decide +kernel); (case ho => rfl); (case hs => kernel_rfl); (case hf => decide +kernel))
        | ((with_reducible apply AANY_take (i := 5)); (case hn => rfl); (case hr => decide +kernel); (case ho => rfl); (case hs => kernel_rfl); (case hf => decide +kernel))
        | ((with_reducible apply AANY_take (i := 6)); (case hn => rfl); (case hr => decide +kernel); (case ho => rfl); (case hs => kernel_rfl); (case hf => decide +kernel))
        | ((with_reducible apply AANY_take (i := 7)); (case hn => rfl); (case hr => decide +kernel); (case ho => rfl); (case hs => kernel_rfl); (case hf => decide +kernel))
        | ((with_reducible apply AANY_take (i := 8)); (case hn => rfl); (case hr => decide +kernel); (case ho => rfl); (case hs => kernel_rfl); (case hf => decide +kernel); (first | (((with_reducible apply ATK_guard_yes); (case hy => rfl); (case hb => (first | with_reducible assumption | with_reducible rfl | (simp only [d1, d2, d3, d4, d5, d6, d7, q1]; done) | (simp; done) | (simp; omega)))); (first | ((with_reducible apply TS_move); (case hx => rfl); (case hs => (simp only [aput, List.set_cons_succ, List.set_cons_zero]; rfl))) | ((with_reducible apply TS_assign); (case hx => rfl); (case hs => (simp only [aput, List.set_cons_succ, List.set_cons_zero]; rfl))) | ((with_reducible apply TS_pick_t); (case hc => rfl); (case hb => (first | with_reducible assumption | with_reducible rfl | (simp only [d1, d2, d3, d4, d5, d6, d7, q1]; done) | (simp; done) | (simp; omega))); (case hx => rfl); (case hs => (simp only [aput, List.set_cons_succ, List.set_cons_zero]; rfl))) | ((with_reducible apply TS_pick_f); (case hc => rfl); (case hb => (first | with_reducible assumption | with_reducible rfl | (simp only [d1, d2, d3, d4, d5, d6, d7, q1]; done) | (simp; done) | (simp; omega))); (case hx => rfl); (case hs => (simp only [aput, List.set_cons_succ, List.set_cons_zero]; rfl))) | ((with_reducible apply TS_eq8); (case hx => rfl); (case hy => rfl); (case hs => (simp only [aput, List.set_cons_succ, List.set_cons_zero]; rfl))) | ((with_reducible apply TS_ne8); (case hx => rfl); (case hy => rfl); (case hs => (simp only [aput, List.set_cons_succ, List.set_cons_zero]; rfl))) | ((with_reducible apply TS_bin); (case hx => rfl); (case hy => rfl); (case ho => rfl); (case hs => (simp only [aput, List.set_cons_succ, List.set_cons_zero]; rfl))) | ((with_reducible apply ATK_str); (case hx => rfl); (case hy => rfl); (case ho => rfl); (case hs => (simp only [aput, List.set_cons_succ, List.set_cons_zero]; rfl))) | ((with_reducible apply ATK_beq); (case hx => rfl); (case hy => rfl); (case hs => (simp only [aput, List.set_cons_succ, List.set_cons_zero]; rfl))) | ((with_reducible apply ATK_bne); (case hx => rfl); (case hy => rfl); (case hs => (simp only [aput, List.set_cons_succ, List.set_cons_zero]; rfl))) | ((with_reducible apply TS_conv_same); (case hx => rfl); (case hb => (first | (constructor <;> omega) | omega | (simp; done) | (simp; omega))); (case hs => (simp only [aput, List.set_cons_succ, List.set_cons_zero]; rfl))) | ((with_reducible apply TS_conv_u8); (case hx => rfl); (case hs => (simp only [aput, List.set_cons_succ, List.set_cons_zero]; rfl))) | ((with_reducible apply TS_conv_byte); (case hx => rfl); (case hs => (simp only [aput, List.set_cons_succ, List.set_cons_zero]; rfl))) | ((with_reducible apply ATK_conv); (case hx => rfl); (case hs => (simp only [aput, List.set_cons_succ, List.set_cons_zero]; rfl))) | ((with_reducible apply TS_slice8_lh); (case hx => rfl); (case hy => rfl); (case hz => rfl); (case hl => rfl); (case hh => rfl); (case hlm => (first | (constructor <;> omega) | omega | (simp; done) | (simp; omega))); (case hs => (simp only [aput, List.set_cons_succ, List.set_cons_zero]; rfl))) | ((with_reducible apply TS_slice8_h); (case hx => rfl); (case hz => rfl); (case hh => rfl); (case hlm => (first | (constructor <;> omega) | omega | (simp; done) | (simp; omega))); (case hs => (simp only [aput, List.set_cons_succ, List.set_cons_zero]; rfl))) | ((with_reducible apply TS_slice8_l); (case hx => rfl); (case hy => rfl); (case hl => rfl); (case hlm => (first | (constructor <;> omega) | omega | (simp; done) | (simp; omega))); (case hs => (simp only [aput, List.set_cons_succ, List.set_cons_zero]; rfl))) | ((with_reducible apply ATK_string); (case hx => rfl); (case hb => rfl); (case hl => (first | rfl | with_reducible assumption | (simp; done) | (simp; omega) | omega)); (case hs => (simp only [aput, List.set_cons_succ, List.set_cons_zero]; rfl))) | ((with_reducible apply ATK_string_nils); (case hx => rfl); (case hs => (simp only [aput, List.set_cons_succ, List.set_cons_zero]; rfl))) | ((with_reducible apply TS_string_isB); (case hx => rfl); (case hb => assumption); (case hs => (simp only [aput, List.set_cons_succ, List.set_cons_zero]; rfl))))) | ((with_reducible apply ATK_guard_no); (case hy => rfl); (case hb => (first | with_reducible assumption | with_reducible rfl | (simp only [d1, d2, d3, d4, d5, d6, d7, q1]; done) | (simp; done) | (simp; omega))); (case hs => (simp only [aput, List.set_cons_succ, List.set_cons_zero]; rfl))) | ((with_reducible apply ATK_guard_und); (case hy => rfl); (case hs => (simp only [aput, List.set_cons_succ, List.set_cons_zero]; rfl))) | ((with_reducible apply TS_move); (case hx => rfl); (case hs => (simp only [aput, List.set_cons_succ, List.set_cons_zero]; rfl))) | ((with_reducible apply TS_assign); (case hx => rfl); (case hs => (simp only [aput, List.set_cons_succ, List.set_cons_zero]; rfl))) | ((with_reducible apply TS_pick_t); (case hc => rfl); (case hb => (first | with_reducible assumption | with_reducible rfl | (simp only [d1, d2, d3, d4, d5, d6, d7, q1]; done) | (simp; done) | (simp; omega))); (case hx => rfl); (case hs => (simp only [aput, List.set_cons_succ, List.set_cons_zero]; rfl))) | ((with_reducible apply TS_pick_f); (case hc => rfl); (case hb => (first | with_reducible assumption | with_reducible rfl | (simp only [d1, d2, d3, d4, d5, d6, d7, q1]; done) | (simp; done) | (simp; omega))); (case hx => rfl); (case hs => (simp only [aput, List.set_cons_succ, List.set_cons_zero]; rfl))) | ((with_reducible apply TS_eq8); (case hx => rfl); (case hy => rfl); (case hs => (simp only [aput, List.set_cons_succ, List.set_cons_zero]; rfl))) | ((with_reducible apply TS_ne8); (case hx => rfl); (case hy => rfl); (case hs => (simp only [aput, List.set_cons_succ, List.set_cons_zero]; rfl))) | ((with_reducible apply TS_bin); (case hx => rfl); (case hy => rfl); (case ho => rfl); (case hs => (simp only [aput, List.set_cons_succ, List.set_cons_zero]; rfl))) | ((with_reducible apply ATK_str); (case hx => rfl); (case hy => rfl); (case ho => rfl); (case hs => (simp only [aput, List.set_cons_succ, List.set_cons_zero]; rfl))) | ((with_reducible apply ATK_beq); (case hx => rfl); (case hy => rfl); (case hs => (simp only [aput, List.set_cons_succ, List.set_cons_zero]; rfl))) | ((with_reducible apply ATK_bne); (case hx => rfl); (case hy => rfl); (case hs => (simp only [aput, List.set_cons_succ, List.set_cons_zero]; rfl))) | ((with_reducible apply TS_conv_same); (case hx => rfl); (case hb => (first | (constructor <;> omega) | omega | (simp; done) | (simp; omega))); (case hs => (simp only [aput, List.set_cons_succ, List.set_cons_zero]; rfl))) | ((with_reducible apply TS_conv_u8); (case hx => rfl); (case hs => (simp only [aput, List.set_cons_succ, List.set_cons_zero]; rfl))) | ((with_reducible apply TS_conv_byte); (case hx => rfl); (case hs => (simp only [aput, List.set_cons_succ, List.set_cons_zero]; rfl))) | ((with_reducible apply ATK_conv); (case hx => rfl); (case hs => (simp only [aput, List.set_cons_succ, List.set_cons_zero]; rfl))) | ((with_reducible apply TS_slice8_lh); (case hx => rfl); (case hy => rfl); (case hz => rfl); (case hl => rfl); (case hh => rfl); (case hlm => (first | (constructor <;> omega) | omega | (simp; done) | (simp; omega))); (case hs => (simp only [aput, List.set_cons_succ, List.set_cons_zero]; rfl))) | ((with_reducible apply TS_slice8_h); (case hx => rfl); (case hz => rfl); (case hh => rfl); (case hlm => (first | (constructor <;> omega) | omega | (simp; done) | (simp; omega))); (case hs => (simp only [aput, List.set_cons_succ, List.set_cons_zero]; rfl))) | ((with_reducible apply TS_slice8_l); (case hx => rfl); (case hy => rfl); (case hl => rfl); (case hlm => (first | (constructor <;> omega) | omega | (simp; done) | (simp; omega))); (case hs => (simp only [aput, List.set_cons_succ, List.set_cons_zero]; rfl))) | ((with_reducible apply ATK_string); (case hx => rfl); (case hb => rfl); (case hl => (first | rfl | with_reducible assumption | (simp; done) | (simp; omega) | omega)); (case hs => (simp only [aput, List.set_cons_succ, List.set_cons_zero]; rfl))) | ((with_reducible apply ATK_string_nils); (case hx => rfl); (case hs => (simp only [aput, List.set_cons_succ, List.set_cons_zero]; rfl))) | ((with_reducible apply TS_string_isB); (case hx => rfl); (case hb => assumption); (case hs => (simp only [aput, List.set_cons_succ, List.set_cons_zero]; rfl)))))
        | ((with_reducible apply AANY_take (i := 9)); (case hn => rfl); (case hr => decide +kernel); (case ho => rfl); (case hs => kernel_rfl); (case hf => decide +kernel))
        | ((with_reducible apply AANY_take (i := 10)); (case hn => rfl); (case hr => decide +kernel); (case ho => rfl); (case hs => kernel_rfl); (case hf => decide +kernel))
        | ((with_reducible apply AANY_take (i := 11)); (case hn => rfl); (case hr => decide +kernel); (case ho => rfl); (case hs => kernel_rfl); (case hf => decide +kernel))
        | ((with_reducible apply AANY_step [8]); (case hn => rfl); (case hr => decide +kernel); (case hne => decide +kernel))
        | with_reducible exact ACands_nil
        | with_reducible refine ACands_cons ?_ ?_
        | ((with_reducible refine ACand_no ?_); decide +kernel)
        | ((with_reducible apply ACand_yes); (case ho => rfl))
        | fail)
      all_goals
        refine ARet_ret rfl (.tmpO rfl .nil) ?_
        rfl
    · have d7 : decide (fewer < 0) = false := by simpa using h7
      have d8 : decide (fewer > (N : Int)) = true := by simp; omega
      repeat' (first
        | with_reducible refine AWP_seq ?_
        | with_reducible refine AWP_region ?_
        | with_reducible refine AOPS_nil ?_
        | with_reducible refine AThen_normal ?_
        | with_reducible refine AThen_ret ?_
        | with_reducible refine AThen_exit ?_
        | with_reducible refine ARound_ret ?_
        | with_reducible refine ARound_exit ?_
        | with_reducible refine AWP_skip ?_
        | with_reducible refine AWP_ret ?_
        | with_reducible refine AWP_exit ?_
        | ((with_reducible apply AWP_cond_t); (case hc => rfl); (case hb => (first | with_reducible assumption | with_reducible rfl | (simp only [d1, d2, d3, d4, d5, d6, d7, d8, q1]; done) | (simp; done) | (simp; omega))))
        | ((with_reducible apply AWP_cond_f); (case hc => rfl); (case hb => (first | with_reducible assumption | with_reducible rfl | (simp only [d1, d2, d3, d4, d5, d6, d7, d8, q1]; done) | (simp; done) | (simp; omega))))
        | ((with_reducible apply AOPS_guard_yes); (case hy => rfl); (case hb => (first | with_reducible assumption | with_reducible rfl | (simp only [d1, d2, d3, d4, d5, d6, d7, d8, q1]; done) | (simp; done) | (simp; omega))))
        | ((with_reducible apply AOPS_guard_no); (case hy => rfl); (case hb => (first | with_reducible assumption | with_reducible rfl | (simp only [d1, d2, d3, d4, d5, d6, d7, d8, q1]; done) | (simp; done) | (simp; omega))); (case hs => (simp only [aput, List.set_cons_succ, List.set_cons_zero]; rfl)))
        | ((with_reducible apply AOPS_guard_und); (case hy => rfl); (case hs => (simp only [aput, List.set_cons_succ, List.set_cons_zero]; rfl)))
        | ((with_reducible apply S_move); (case hx => rfl); (case hs => (simp only [aput, List.set_cons_succ, List.set_cons_zero]; rfl)))
        | ((with_reducible apply S_assign); (case hx => rfl); (case hs => (simp only [aput, List.set_cons_succ, List.set_cons_zero]; rfl)))
        | ((with_reducible apply S_pick_t); (case hc => rfl); (case hb => (first | with_reducible assumption | with_reducible rfl | (simp only [d1, d2, d3, d4, d5, d6, d7, d8, q1]; done) | (simp; done) | (simp; omega))); (case hx => rfl); (case hs => (simp only [aput, List.set_cons_succ, List.set_cons_zero]; rfl)))
        | ((with_reducible apply S_pick_f); (case hc => rfl); (case hb => (first | with_reducible assumption | with_reducible rfl | (simp only [d1, d2, d3, d4, d5, d6, d7, d8, q1]; done) | (simp; done) | (simp; omega))); (case hx => rfl); (case hs => (simp only [aput, List.set_cons_succ, List.set_cons_zero]; rfl)))
        | ((with_reducible apply AOPS_not); (case hx => rfl); (case hs => (simp only [aput, List.set_cons_succ, List.set_cons_zero]; rfl)))
        | ((with_reducible apply AOPS_len_sl); (case hx => rfl); (case hs => (simp only [aput, List.set_cons_succ, List.set_cons_zero]; rfl)))
        | ((with_reducible apply AOPS_len_nils); (case hx => rfl); (case hs => (simp only [aput, List.set_cons_succ, List.set_cons_zero]; rfl)))
        | ((with_reducible apply AOPS_len_row); (case hx => rfl); (case hs => (simp only [aput, List.set_cons_succ, List.set_cons_zero]; rfl)))
        | ((with_reducible apply AOPS_len_str); (case hx => rfl); (case hs => (simp only [aput, List.set_cons_succ, List.set_cons_zero]; rfl)))
        | ((with_reducible apply S_len_isB); (case hx => rfl); (case hb => assumption); (case hs => (simp only [aput, List.set_cons_succ, List.set_cons_zero]; rfl)))
        | ((with_reducible apply S_eq8); (case hx => rfl); (case hy => rfl); (case hs => (simp only [aput, List.set_cons_succ, List.set_cons_zero]; rfl)))
        | ((with_reducible apply S_ne8); (case hx => rfl); (case hy => rfl); (case hs => (simp only [aput, List.set_cons_succ, List.set_cons_zero]; rfl)))
        | ((with_reducible apply S_bin); (case hx => rfl); (case hy => rfl); (case ho => rfl); (case hs => (simp only [aput, List.set_cons_succ, List.set_cons_zero]; rfl)))
        | ((with_reducible apply AOPS_str); (case hx => rfl); (case hy => rfl); (case ho => rfl); (case hs => (simp only [aput, List.set_cons_succ, List.set_cons_zero]; rfl)))
        | ((with_reducible apply AOPS_beq); (case hx => rfl); (case hy => rfl); (case hs => (simp only [aput, List.set_cons_succ, List.set_cons_zero]; rfl)))
        | ((with_reducible apply AOPS_bne); (case hx => rfl); (case hy => rfl); (case hs => (simp only [aput, List.set_cons_succ, List.set_cons_zero]; rfl)))
        | ((with_reducible apply S_conv_same); (case hx => rfl); (case hb => (first | (constructor <;> omega) | omega | (simp; done) | (simp; omega))); (case hs => (simp only [aput, List.set_cons_succ, List.set_cons_zero]; rfl)))
        | ((with_reducible apply S_conv_u8); (case hx => rfl); (case hs => (simp only [aput, List.set_cons_succ, List.set_cons_zero]; rfl)))
        | ((with_reducible apply S_conv_byte); (case hx => rfl); (case hs => (simp only [aput, List.set_cons_succ, List.set_cons_zero]; rfl)))
        | ((with_reducible apply AOPS_conv); (case hx => rfl); (case hs => (simp only [aput, List.set_cons_succ, List.set_cons_zero]; rfl)))
        | ((with_reducible apply S_extract); (case hx => rfl); (case hi => rfl); (case hs => (simp only [aput, List.set_cons_succ, List.set_cons_zero]; rfl)))
        | ((with_reducible apply S_slice8_lh); (case hx => rfl); (case hy => rfl); (case hz => rfl); (case hl => rfl); (case hh => rfl); (case hlm => (first | (constructor <;> omega) | omega | (simp; done) | (simp; omega))); (case hs => (simp only [aput, List.set_cons_succ, List.set_cons_zero]; rfl)))
        | ((with_reducible apply S_slice8_h); (case hx => rfl); (case hz => rfl); (case hh => rfl); (case hlm => (first | (constructor <;> omega) | omega | (simp; done) | (simp; omega))); (case hs => (simp only [aput, List.set_cons_succ, List.set_cons_zero]; rfl)))
        | ((with_reducible apply S_slice8_l); (case hx => rfl); (case hy => rfl); (case hl => rfl); (case hlm => (first | (constructor <;> omega) | omega | (simp; done) | (simp; omega))); (case hs => (simp only [aput, List.set_cons_succ, List.set_cons_zero]; rfl)))
        | ((with_reducible apply AOPS_string); (case hx => rfl); (case hb => rfl); (case hl => (first | rfl | with_reducible assumption | (simp; done) | (simp; omega) | omega)); (case hs => (simp only [aput, List.set_cons_succ, List.set_cons_zero]; rfl)))
        | ((with_reducible apply AOPS_string_nils); (case hx => rfl); (case hs => (simp only [aput, List.set_cons_succ, List.set_cons_zero]; rfl)))
        | ((with_reducible apply S_string_isB); (case hx => rfl); (case hb => assumption); (case hs => (simp only [aput, List.set_cons_succ, List.set_cons_zero]; rfl)))
        | ((with_reducible apply AOPS_bytes); (case hx => rfl); (case hs => (simp only [aput, List.set_cons_succ, List.set_cons_zero]; rfl)))
        | ((with_reducible apply S_call_val (g := 15)); (case hf => rfl); (case ha => rfl); (case h => exact anchor2_val); (case hc => exact (fun vs w => by kernel_rfl)); (case hs => (simp only [aput, List.set_cons_succ, List.set_cons_zero]; rfl)))
        | ((with_reducible apply S_call_val (g := 21)); (case hf => rfl); (case ha => rfl); (case h => exact (expand_val (key := key) (info := info) (.mk_ _ _) (.mk_ _ _) (by omega) (by omega) (by omega))); (case hc => exact (fun vs w => by kernel_rfl)); (case hs => (simp only [aput, List.set_cons_succ, List.set_cons_zero]; rfl)))
        | ((with_reducible apply S_call_val (g := 22)); (case hf => rfl); (case ha => rfl); (case h => exact (rexpand_val (key := key) (info := info) (.mk_ _ _) (.mk_ _ _) (by omega) (by omega) (by omega))); (case hc => exact (fun vs w => by kernel_rfl)); (case hs => (simp only [aput, List.set_cons_succ, List.set_cons_zero]; rfl)))
        | with_reducible refine ATK_nil ?_
        | with_reducible refine AAnyQ_normal ?_
        | ((with_reducible apply ATK_guard_yes); (case hy => rfl); (case hb => (first | with_reducible assumption | with_reducible rfl | (simp only [d1, d2, d3, d4, d5, d6, d7, d8, q1]; done) | (simp; done) | (simp; omega))))
        | ((with_reducible apply ATK_guard_no); (case hy => rfl); (case hb => (first | with_reducible assumption | with_reducible rfl | (simp only [d1, d2, d3, d4, d5, d6, d7, d8, q1]; done) | (simp; done) | (simp; omega))); (case hs => (simp only [aput, List.set_cons_succ, List.set_cons_zero]; rfl)))
        | ((with_reducible apply ATK_guard_und); (case hy => rfl); (case hs => (simp only [aput, List.set_cons_succ, List.set_cons_zero]; rfl)))
        | ((with_reducible apply TS_move); (case hx => rfl); (case hs => (simp only [aput, List.set_cons_succ, List.set_cons_zero]; rfl)))
        | ((with_reducible apply TS_assign); (case hx => rfl); (case hs => (simp only [aput, List.set_cons_succ, List.set_cons_zero]; rfl)))
        | ((with_reducible apply TS_pick_t); (case hc => rfl); (case hb => (first | with_reducible assumption | with_reducible rfl | (simp only [d1, d2, d3, d4, d5, d6, d7, d8, q1]; done) | (simp; done) | (simp; omega))); (case hx => rfl); (case hs => (simp only [aput, List.set_cons_succ, List.set_cons_zero]; rfl)))
        | ((with_reducible apply TS_pick_f); (case hc => rfl); (case hb => (first | with_reducible assumption | with_reducible rfl | (simp only [d1, d2, d3, d4, d5, d6, d7, d8, q1]; done) | (simp; done) | (simp; omega))); (case hx => rfl); (case hs => (simp only [aput, List.set_cons_succ, List.set_cons_zero]; rfl)))
        | ((with_reducible apply TS_eq8); (case hx => rfl); (case hy => rfl); (case hs => (simp only [aput, List.set_cons_succ, List.set_cons_zero]; rfl)))
        | ((with_reducible apply TS_ne8); (case hx => rfl); (case hy => rfl); (case hs => (simp only [aput, List.set_cons_succ, List.set_cons_zero]; rfl)))
        | ((with_reducible apply TS_bin); (case hx => rfl); (case hy => rfl); (case ho => rfl); (case hs => (simp only [aput, List.set_cons_succ, List.set_cons_zero]; rfl)))
        | ((with_reducible apply ATK_str); (case hx => rfl); (case hy => rfl); (case ho => rfl); (case hs => (simp only [aput, List.set_cons_succ, List.set_cons_zero]; rfl)))
        | ((with_reducible apply ATK_beq); (case hx => rfl); (case hy => rfl); (case hs => (simp only [aput, List.set_cons_succ, List.set_cons_zero]; rfl)))
        | ((with_reducible apply ATK_bne); (case hx => rfl); (case hy => rfl); (case hs => (simp only [aput, List.set_cons_succ, List.set_cons_zero]; rfl)))
        | ((with_reducible apply TS_conv_same); (case hx => rfl); (case hb => (first | (constructor <;> omega) | omega | (simp; done) | (simp; omega))); (case hs => (simp only [aput, List.set_cons_succ, List.set_cons_zero]; rfl)))
        | ((with_reducible apply TS_conv_u8); (case hx => rfl); (case hs => (simp only [aput, List.set_cons_succ, List.set_cons_zero]; rfl)))
        | ((with_reducible apply TS_conv_byte); (case hx => rfl); (case hs => (simp only [aput, List.set_cons_succ, List.set_cons_zero]; rfl)))
        | ((with_reducible apply ATK_conv); (case hx => rfl); (case hs => (simp only [aput, List.set_cons_succ, List.set_cons_zero]; rfl)))
        | ((with_reducible apply TS_slice8_lh); (case hx => rfl); (case hy => rfl); (case hz => rfl); (case hl => rfl); (case hh => rfl); (case hlm => (first | (constructor <;> omega) | omega | (simp; done) | (simp; omega))); (case hs => (simp only [aput, List.set_cons_succ, List.set_cons_zero]; rfl)))
        | ((with_reducible apply TS_slice8_h); (case hx => rfl); (case hz => rfl); (case hh => rfl); (case hlm => (first | (constructor <;> omega) | omega | (simp; done) | (simp; omega))); (case hs => (simp only [aput, List.set_cons_succ, List.set_cons_zero]; rfl)))
        | ((with_reducible apply TS_slice8_l); (case hx => rfl); (case hy => rfl); (case hl => rfl); (case hlm => (first | (constructor <;> omega) | omega | (simp; done) | (simp; omega))); (case hs => (simp only [aput, List.set_cons_succ, List.set_cons_zero]; rfl)))
        | ((with_reducible apply ATK_string); (case hx => rfl); (case hb => rfl); (case hl => (first | rfl | with_reducible assumption | (simp; done) | (simp; omega) | omega)); (case hs => (simp only [aput, List.set_cons_succ, List.set_cons_zero]; rfl)))
        | ((with_reducible apply ATK_string_nils); (case hx => rfl); (case hs => (simp only [aput, List.set_cons_succ, List.set_cons_zero]; rfl)))
        | ((with_reducible apply TS_string_isB); (case hx => rfl); (case hb => assumption); (case hs => (simp only [aput, List.set_cons_succ, List.set_cons_zero]; rfl)))
        | ((with_reducible apply AWP_draw (n := 12)); (case hm => kernel_rfl); (case hn => rfl))
        | ((with_reducible apply AANY_done); (case hr => decide +kernel))
        | ((with_reducible apply AANY_take (i := 0)); (case hn => rfl); (case hr => decide +kernel); (case ho => rfl); (case hs => kernel_rfl); (case hf => decide +kernel))
        | ((with_reducible apply AANY_take (i := 1)); (case hn => rfl); (case hr => decide +kernel); (case ho => rfl); (case hs => kernel_rfl); (case hf => decide +kernel))
        | ((with_reducible apply AANY_take (i := 2)); (case hn => rfl); (case hr => decide +kernel); (case ho => rfl); (case hs => kernel_rfl); (case hf => decide +kernel))
        | ((with_reducible apply AANY_take (i := 3)); (case hn => rfl); (case hr => decide +kernel); (case ho => rfl); (case hs => kernel_rfl); (case hf => decide +kernel))
        | ((with_reducible apply AANY_take (i := 4)); (case hn => rfl); (case hr => decide +kernel); (case ho => rfl); (case hs => kernel_rfl); (case hf => decide +kernel))
        | ((with_reducible apply AANY_take (i := 5)); (case hn => rfl); (case hr => decide +kernel); (case ho => rfl); (case hs => kernel_rfl); (case hf => decide +kernel))
        | ((with_reducible apply AANY_take (i := 6)); (case hn => rfl); (case hr => decide +kernel); (case ho => rfl); (case hs => kernel_rfl); (case hf => decide +kernel))
        | ((with_reducible apply AANY_take (i := 7)); (case hn => rfl); (case hr => decide +kernel); (case ho => rfl); (case hs => kernel_rfl); (case hf => decide +kernel))
        | ((with_reducible apply AANY_take (i := 8)); (case hn => rfl); (case hr => decide +kernel); (case ho => rfl); (case hs => kernel_rfl); (case hf => decide +kernel); (first | (((with_reducible apply ATK_guard_yes); (case hy => rfl); (case hb => (first | with_reducible assumption | with_reducible rfl | (simp only [d1, d2, d3, d4, d5, d6, d7, d8, q1]; done) | (simp; done) | (simp; omega)))); (first | ((with_reducible apply TS_move); (case hx => rfl); (case hs => (simp only [aput, List.set_cons_succ, List.set_cons_zero]; rfl))) | ((with_reducible apply TS_assign); (case hx => rfl); (case hs => (simp only [aput, List.set_cons_succ, List.set_cons_zero]; rfl))) | ((with_reducible apply TS_pick_t); (case hc => rfl); (case hb => (first | with_reducible assumption | with_reducible rfl | (simp only [d1, d2, d3, d4, d5, d6, d7, d8, q1]; done) | (simp; done) | (simp; omega))); (case hx => rfl); (case hs => (simp only [aput, List.set_cons_succ, List.set_cons_zero]; rfl))) | ((with_reducible apply TS_pick_f); (case hc => rfl); (case hb => (first | with_reducible assumption | with_reducible rfl | (simp only [d1, d2, d3, d4, d5, d6, d7, d8, q1]; done) | (simp; done) | (simp; omega))); (case hx => rfl); (case hs => (simp only [aput, List.set_cons_succ, List.set_cons_zero]; rfl))) | ((with_reducible apply TS_eq8); (case hx => rfl); (case hy => rfl); (case hs => (simp only [aput, List.set_cons_succ, List.set_cons_zero]; rfl))) | ((with_reducible apply TS_ne8); (case hx => rfl); (case hy => rfl); (case hs => (simp only [aput, List.set_cons_succ, List.set_cons_zero]; rfl))) | ((with_reducible apply TS_bin); (case hx => rfl); (case hy => rfl); (case ho => rfl); (case hs => (simp only [aput, List.set_cons_succ, List.set_cons_zero]; rfl))) | ((with_reducible apply ATK_str); (case hx => rfl); (case hy => rfl); (case ho => rfl); (case hs => (simp only [aput, List.set_cons_succ, List.set_cons_zero]; rfl))) | ((with_reducible apply ATK_beq); (case hx => rfl); (case hy => rfl); (case hs => (simp only [aput, List.set_cons_succ, List.set_cons_zero]; rfl))) | ((with_reducible apply ATK_bne); (case hx => rfl); (case hy => rfl); (case hs => (simp only [aput, List.set_cons_succ, List.set_cons_zero]; rfl))) | ((with_reducible apply TS_conv_same); (case hx => rfl); (case hb => (first | (constructor <;> omega) | omega | (simp; done) | (simp; omega))); (case hs => (simp only [aput, List.set_cons_succ, List.set_cons_zero]; rfl))) | ((with_reducible apply TS_conv_u8); (case hx => rfl); (case hs => (simp only [aput, List.set_cons_succ, List.set_cons_zero]; rfl))) | ((with_reducible apply TS_conv_byte); (case hx => rfl); (case hs => (simp only [aput, List.set_cons_succ, List.set_cons_zero]; rfl))) | ((with_reducible apply ATK_conv); (case hx => rfl); (case hs => (simp only [aput, List.set_cons_succ, List.set_cons_zero]; rfl))) | ((with_reducible apply TS_slice8_lh); (case hx => rfl); (case hy => rfl); (case hz => rfl); (case hl => rfl); (case hh => rfl); (case hlm => (first | (constructor <;> omega) | omega | (simp; done) | (simp; omega))); (case hs => (simp only [aput, List.set_cons_succ, List.set_cons_zero]; rfl))) | ((with_reducible apply TS_slice8_h); (case hx => rfl); (case hz => rfl); (case hh => rfl); (case hlm => (first | (constructor <;> omega) | omega | (simp; done) | (simp; omega))); (case hs => (simp only [aput, List.set_cons_succ, List.set_cons_zero]; rfl))) | ((with_reducible apply TS_slice8_l); (case hx => rfl); (case hy => rfl); (case hl => rfl); (case hlm => (first | (constructor <;> omega) | omega | (simp; done) | (simp; omega))); (case hs => (simp only [aput, List.set_cons_succ, List.set_cons_zero]; rfl))) | ((with_reducible apply ATK_string); (case hx => rfl); (case hb => rfl); (case hl => (first | rfl | with_reducible assumption | (simp; done) | (simp; omega) | omega)); (case hs => (simp only [aput, List.set_cons_succ, List.set_cons_zero]; rfl))) | ((with_reducible apply ATK_string_nils); (case hx => rfl); (case hs => (simp only [aput, List.set_cons_succ, List.set_cons_zero]; rfl))) | ((with_reducible apply TS_string_isB); (case hx => rfl); (case hb => assumption); (case hs => (simp only [aput, List.set_cons_succ, List.set_cons_zero]; rfl))))) | ((with_reducible apply ATK_guard_no); (case hy => rfl); (case hb => (first | with_reducible assumption | with_reducible rfl | (simp only [d1, d2, d3, d4, d5, d6, d7, d8, q1]; done) | (simp; done) | (simp; omega))); (case hs => (simp only [aput, List.set_cons_succ, List.set_cons_zero]; rfl))) | ((with_reducible apply ATK_guard_und); (case hy => rfl); (case hs => (simp only [aput, List.set_cons_succ, List.set_cons_zero]; rfl))) | ((with_reducible apply TS_move); (case hx => rfl); (case hs => (simp only [aput, List.set_cons_succ, List.set_cons_zero]; rfl))) | ((with_reducible apply TS_assign); (case hx => rfl); (case hs => (simp only [aput, List.set_cons_succ, List.set_cons_zero]; rfl))) | ((with_reducible apply TS_pick_t); (case hc => rfl); (case hb => (first | with_reducible assumption | with_reducible rfl | (simp only [d1, d2, d3, d4, d5, d6, d7, d8, q1]; done) | (simp; done) | (simp; omega))); (case hx => rfl); (case hs => (simp only [aput, List.set_cons_succ, List.set_cons_zero]; rfl))) | ((with_reducible apply TS_pick_f); (case hc => rfl); (case hb => (first | with_reducible assumption | with_reducible rfl | (simp only [d1, d2, d3, d4, d5, d6, d7, d8, q1]; done) | (simp; done) | (simp; omega))); (case hx => rfl); (case hs => (simp only [aput, List.set_cons_succ, List.set_cons_zero]; rfl))) | ((with_reducible apply TS_eq8); (case hx => rfl); (case hy => rfl); (case hs => (simp only [aput, List.set_cons_succ, List.set_cons_zero]; rfl))) | ((with_reducible apply TS_ne8); (case hx => rfl); (case hy => rfl); (case hs => (simp only [aput, List.set_cons_succ, List.set_cons_zero]; rfl))) | ((with_reducible apply TS_bin); (case hx => rfl); (case hy => rfl); (case ho => rfl); (case hs => (simp only [aput, List.set_cons_succ, List.set_cons_zero]; rfl))) | ((with_reducible apply ATK_str); (case hx => rfl); (case hy => rfl); (case ho => rfl); (case hs => (simp only [aput, List.set_cons_succ, List.set_cons_zero]; rfl))) | ((with_reducible apply ATK_beq); (case hx => rfl); (case hy => rfl); (case hs => (simp only [aput, List.set_cons_succ, List.set_cons_zero]; rfl))) | ((with_reducible apply ATK_bne); (case hx => rfl); (case hy => rfl); (case hs => (simp only [aput, List.set_cons_succ, List.set_cons_zero]; rfl))) | ((with_reducible apply TS_conv_same); (case hx => rfl); (case hb => (first | (constructor <;> omega) | omega | (simp; done) | (simp; omega))); (case hs => (simp only [aput, List.set_cons_succ, List.set_cons_zero]; rfl))) | ((with_reducible apply TS_conv_u8); (case hx => rfl); (case hs => (simp only [aput, List.set_cons_succ, List.set_cons_zero]; rfl))) | ((with_reducible apply TS_conv_byte); (case hx => rfl); (case hs => (simp only [aput, List.set_cons_succ, List.set_cons_zero]; rfl))) | ((with_reducible apply ATK_conv); (case hx => rfl); (case hs => (simp only [aput, List.set_cons_succ, List.set_cons_zero]; rfl))) | ((with_reducible apply TS_slice8_lh); (case hx => rfl); (case hy => rfl); (case hz => rfl); (case hl => rfl); (case hh => rfl); (case hlm => (first | (constructor <;> omega) | omega | (simp; done) | (simp; omega))); (case hs => (simp only [aput, List.set_cons_succ, List.set_cons_zero]; rfl))) | ((with_reducible apply TS_slice8_h); (case hx => rfl); (case hz => rfl); (case hh => rfl); (case hlm => (first | (constructor <;> omega) | omega | (simp; done) | (simp; omega))); (case hs => (simp only [aput, List.set_cons_succ, List.set_cons_zero]; rfl))) | ((with_reducible apply TS_slice8_l); (case hx => rfl); (case hy => rfl); (case hl => rfl); (case hlm => (first | (constructor <;> omega) | omega | (simp; done) | (simp; omega))); (case hs => (simp only [aput, List.set_cons_succ, List.set_cons_zero]; rfl))) | ((with_reducible apply ATK_string); (case hx => rfl); (case hb => rfl); (case hl => (first | rfl | with_reducible assumption | (simp; done) | (simp; omega) | omega)); (case hs => (simp only [aput, List.set_cons_succ, List.set_cons_zero]; rfl))) | ((with_reducible apply ATK_string_nils); (case hx => rfl); (case hs => (simp only [aput, List.set_cons_succ, List.set_cons_zero]; rfl))) | ((with_reducible apply TS_string_isB); (case hx => rfl); (case hb => assumption); (case hs => (simp only [aput, List.set_cons_succ, List.set_cons_zero]; rfl)))))
        | ((with_reducible apply AANY_take (i := 9)); (case hn => rfl); (case hr => decide +kernel); (case ho => rfl); (case hs => kernel_rfl); (case hf => decide +kernel))
        | ((with_reducible apply AANY_take (i := 10)); (case hn => rfl); (case hr => decide +kernel); (case ho => rfl); (case hs => kernel_rfl); (case hf => decide +kernel))
        | ((with_reducible apply AANY_take (i := 11)); (case hn => rfl); (case hr => decide +kernel); (case ho => rfl); (case hs => kernel_rfl); (case hf => decide +kernel))
        | ((with_reducible apply AANY_step [8]); (case hn => rfl); (case hr => decide +kernel); (case hne => decide +kernel))
        | with_reducible exact ACands_nil
        | with_reducible refine ACands_cons ?_ ?_
        | ((with_reducible refine ACand_no ?_); decide +kernel)
        | ((with_reducible apply ACand_yes); (case ho => rfl))
        | fail)
      all_goals
        refine ARet_ret rfl (.tmpO rfl .nil) ?_
        rfl
  obtain ⟨F, rfl⟩ := Int.eq_ofNat_of_zero_le (show 0 ≤ fewer by omega)
  have d7 : decide ((F : Int) < 0) = false := by simp
  have d8 : decide ((F : Int) > (N : Int)) = false := by simp; omega
  have hF : (exN key info F).length = F := exN_length _ _ (by omega)
  have hT : ((exN key info N).take F).length = F := by rw [List.length_take, hN]; omega
  repeat' (first
    | with_reducible refine AWP_seq ?_
    | with_reducible refine AWP_region ?_
    | with_reducible refine AOPS_nil ?_
    | with_reducible refine AThen_normal ?_
    | with_reducible refine AThen_ret ?_
    | with_reducible refine AThen_exit ?_
    | with_reducible refine ARound_ret ?_
    | with_reducible refine ARound_exit ?_
    | with_reducible refine AWP_skip ?_
    | with_reducible refine AWP_ret ?_
    | with_reducible refine AWP_exit ?_
    | ((with_reducible apply AWP_cond_t); (case hc => rfl); (case hb => (first | with_reducible assumption | with_reducible rfl | (simp only [d1, d2, d3, d4, d5, d6, d7, d8, q1]; done) | (simp; done) | (simp; omega))))
    | ((with_reducible apply AWP_cond_f); (case hc => rfl); (case hb => (first | with_reducible assumption | with_reducible rfl | (simp only [d1, d2, d3, d4, d5, d6, d7, d8, q1]; done) | (simp; done) | (simp; omega))))
    | ((with_reducible apply AOPS_guard_yes); (case hy => rfl); (case hb => (first | with_reducible assumption | with_reducible rfl | (simp only [d1, d2, d3, d4, d5, d6, d7, d8, q1]; done) | (simp; done) | (simp; omega))))
    | ((with_reducible apply AOPS_guard_no); (case hy => rfl); (case hb => (first | with_reducible assumption | with_reducible rfl | (simp only [d1, d2, d3, d4, d5, d6, d7, d8, q1]; done) | (simp; done) | (simp; omega))); (case hs => (simp only [aput, List.set_cons_succ, List.set_cons_zero]; rfl)))
    | ((with_reducible apply AOPS_guard_und); (case hy => rfl); (case hs => (simp only [aput, List.set_cons_succ, List.set_cons_zero]; rfl)))
    | ((with_reducible apply S_move); (case hx => rfl); (case hs => (simp only [aput, List.set_cons_succ, List.set_cons_zero]; rfl)))
    | ((with_reducible apply S_assign); (case hx => rfl); (case hs => (simp only [aput, List.set_cons_succ, List.set_cons_zero]; rfl)))
    | ((with_reducible apply S_pick_t); (case hc => rfl); (case hb => (first | with_reducible assumption | with_reducible rfl | (simp only [d1, d2, d3, d4, d5, d6, d7, d8, q1]; done) | (simp; done) | (simp; omega))); (case hx => rfl); (case hs => (simp only [aput, List.set_cons_succ, List.set_cons_zero]; rfl)))
    | ((with_reducible apply S_pick_f); (case hc => rfl); (case hb => (first | with_reducible assumption | with_reducible rfl | (simp only [d1, d2, d3, d4, d5, d6, d7, d8, q1]; done) | (simp; done) | (simp; omega))); (case hx => rfl); (case hs => (simp only [aput, List.set_cons_succ, List.set_cons_zero]; rfl)))
    | ((with_reducible apply AOPS_not); (case hx => rfl); (case hs => (simp only [aput, List.set_cons_succ, List.set_cons_zero]; rfl)))
    | ((with_reducible apply AOPS_len_sl); (case hx => rfl); (case hs => (simp only [aput, List.set_cons_succ, List.set_cons_zero]; rfl)))
    | ((with_reducible apply AOPS_len_nils); (case hx => rfl); (case hs => (simp only [aput, List.set_cons_succ, List.set_cons_zero]; rfl)))
    | ((with_reducible apply AOPS_len_row); (case hx => rfl); (case hs => (simp only [aput, List.set_cons_succ, List.set_cons_zero]; rfl)))
    | ((with_reducible apply AOPS_len_str); (case hx => rfl); (case hs => (simp only [aput, List.set_cons_succ, List.set_cons_zero]; rfl)))
    | ((with_reducible apply S_len_isB); (case hx => rfl); (case hb => assumption); (case hs => (simp only [aput, List.set_cons_succ, List.set_cons_zero]; rfl)))
    | ((with_reducible apply S_eq8); (case hx => rfl); (case hy => rfl); (case hs => (simp only [aput, List.set_cons_succ, List.set_cons_zero]; rfl)))
    | ((with_reducible apply S_ne8); (case hx => rfl); (case hy => rfl); (case hs => (simp only [aput, List.set_cons_succ, List.set_cons_zero]; rfl)))
    | ((with_reducible apply S_bin); (case hx => rfl); (case hy => rfl); (case ho => rfl); (case hs => (simp only [aput, List.set_cons_succ, List.set_cons_zero]; rfl)))
    | ((with_reducible apply AOPS_str); (case hx => rfl); (case hy => rfl); (case ho => rfl); (case hs => (simp only [aput, List.set_cons_succ, List.set_cons_zero]; rfl)))
    | ((with_reducible apply AOPS_beq); (case hx => rfl); (case hy => rfl); (case hs => (simp only [aput, List.set_cons_succ, List.set_cons_zero]; rfl)))
    | ((with_reducible apply AOPS_bne); (case hx => rfl); (case hy => rfl); (case hs => (simp only [aput, List.set_cons_succ, List.set_cons_zero]; rfl)))
    | ((with_reducible apply S_conv_same); (case hx => rfl); (case hb => (first | (constructor <;> omega) | omega | (simp; done) | (simp; omega))); (case hs => (simp only [aput, List.set_cons_succ, List.set_cons_zero]; rfl)))
    | ((with_reducible apply S_conv_u8); (case hx => rfl); (case hs => (simp only [aput, List.set_cons_succ, List.set_cons_zero]; rfl)))
    | ((with_reducible apply S_conv_byte); (case hx => rfl); (case hs => (simp only [aput, List.set_cons_succ, List.set_cons_zero]; rfl)))
    | ((with_reducible apply AOPS_conv); (case hx => rfl); (case hs => (simp only [aput, List.set_cons_succ, List.set_cons_zero]; rfl)))
    | ((with_reducible apply S_extract); (case hx => rfl); (case hi => rfl); (case hs => (simp only [aput, List.set_cons_succ, List.set_cons_zero]; rfl)))
    | ((with_reducible apply S_slice8_lh); (case hx => rfl); (case hy => rfl); (case hz => rfl); (case hl => rfl); (case hh => rfl); (case hlm => (first | (constructor <;> omega) | omega | (simp; done) | (simp; omega))); (case hs => (simp only [aput, List.set_cons_succ, List.set_cons_zero]; rfl)))
    | ((with_reducible apply S_slice8_h); (case hx => rfl); (case hz => rfl); (case hh => rfl); (case hlm => (first | (constructor <;> omega) | omega | (simp; done) | (simp; omega))); (case hs => (simp only [aput, List.set_cons_succ, List.set_cons_zero]; rfl)))
    | ((with_reducible apply S_slice8_l); (case hx => rfl); (case hy => rfl); (case hl => rfl); (case hlm => (first | (constructor <;> omega) | omega | (simp; done) | (simp; omega))); (case hs => (simp only [aput, List.set_cons_succ, List.set_cons_zero]; rfl)))
    | ((with_reducible apply AOPS_string); (case hx => rfl); (case hb => rfl); (case hl => (first | rfl | with_reducible assumption | (simp; done) | (simp; omega) | omega)); (case hs => (simp only [aput, List.set_cons_succ, List.set_cons_zero]; rfl)))
    | ((with_reducible apply AOPS_string_nils); (case hx => rfl); (case hs => (simp only [aput, List.set_cons_succ, List.set_cons_zero]; rfl)))
    | ((with_reducible apply S_string_isB); (case hx => rfl); (case hb => assumption); (case hs => (simp only [aput, List.set_cons_succ, List.set_cons_zero]; rfl)))
    | ((with_reducible apply AOPS_bytes); (case hx => rfl); (case hs => (simp only [aput, List.set_cons_succ, List.set_cons_zero]; rfl)))
    | ((with_reducible apply S_call_val (g := 15)); (case hf => rfl); (case ha => rfl); (case h => exact anchor2_val); (case hc => exact (fun vs w => by kernel_rfl)); (case hs => (simp only [aput, List.set_cons_succ, List.set_cons_zero]; rfl)))
    | ((with_reducible apply S_call_val (g := 21)); (case hf => rfl); (case ha => rfl); (case h => exact (expand_val (key := key) (info := info) (.mk_ _ _) (.mk_ _ _) (by omega) (by omega) (by omega))); (case hc => exact (fun vs w => by kernel_rfl)); (case hs => (simp only [aput, List.set_cons_succ, List.set_cons_zero]; rfl)))
    | ((with_reducible apply S_call_val (g := 22)); (case hf => rfl); (case ha => rfl); (case h => exact (rexpand_val (key := key) (info := info) (.mk_ _ _) (.mk_ _ _) (by omega) (by omega) (by omega))); (case hc => exact (fun vs w => by kernel_rfl)); (case hs => (simp only [aput, List.set_cons_succ, List.set_cons_zero]; rfl)))
    | with_reducible refine ATK_nil ?_
    | with_reducible refine AAnyQ_normal ?_
    | ((with_reducible apply ATK_guard_yes); (case hy => rfl); (case hb => (first | with_reducible assumption | with_reducible rfl | (simp only [d1, d2, d3, d4, d5, d6, d7, d8, q1]; done) | (simp; done) | (simp; omega))))
    | ((with_reducible apply ATK_guard_no); (case hy => rfl); (case hb => (first | with_reducible assumption | with_reducible rfl | (simp only [d1, d2, d3, d4, d5, d6, d7, d8, q1]; done) | (simp; done) | (simp; omega))); (case hs => (simp only [aput, List.set_cons_succ, List.set_cons_zero]; rfl)))
    | ((with_reducible apply ATK_guard_und); (case hy => rfl); (case hs => (simp only [aput, List.set_cons_succ, List.set_cons_zero]; rfl)))
    | ((with_reducible apply TS_move); (case hx => rfl); (case hs => (simp only [aput, List.set_cons_succ, List.set_cons_zero]; rfl)))
    | ((with_reducible apply TS_assign); (case hx => rfl); (case hs => (simp only [aput, List.set_cons_succ, List.set_cons_zero]; rfl)))
    | ((with_reducible apply TS_pick_t); (case hc => rfl); (case hb => (first | with_reducible assumption | with_reducible rfl | (simp only [d1, d2, d3, d4, d5, d6, d7, d8, q1]; done) | (simp; done) | (simp; omega))); (case hx => rfl); (case hs => (simp only [aput, List.set_cons_succ, List.set_cons_zero]; rfl)))
    | ((with_reducible apply TS_pick_f); (case hc => rfl); (case hb => (first | with_reducible assumption | with_reducible rfl | (simp only [d1, d2, d3, d4, d5, d6, d7, d8, q1]; done) | (simp; done) | (simp; omega))); (case hx => rfl); (case hs => (simp only [aput, List.set_cons_succ, List.set_cons_zero]; rfl)))
    | ((with_reducible apply TS_eq8); (case hx => rfl); (case hy => rfl); (case hs => (simp only [aput, List.set_cons_succ, List.set_cons_zero]; rfl)))
    | ((with_reducible apply TS_ne8); (case hx => rfl); (case hy => rfl); (case hs => (simp only [aput, List.set_cons_succ, List.set_cons_zero]; rfl)))
    | ((with_reducible apply TS_bin); (case hx => rfl); (case hy => rfl); (case ho => rfl); (case hs => (simp only [aput, List.set_cons_succ, List.set_cons_zero]; rfl)))
    | ((with_reducible apply ATK_str); (case hx => rfl); (case hy => rfl); (case ho => rfl); (case hs => (simp only [aput, List.set_cons_succ, List.set_cons_zero]; rfl)))
    | ((with_reducible apply ATK_beq); (case hx => rfl); (case hy => rfl); (case hs => (simp only [aput, List.set_cons_succ, List.set_cons_zero]; rfl)))
    | ((with_reducible apply ATK_bne); (case hx => rfl); (case hy => rfl); (case hs => (simp only [aput, List.set_cons_succ, List.set_cons_zero]; rfl)))
    | ((with_reducible apply TS_conv_same); (case hx => rfl); (case hb => (first | (constructor <;> omega) | omega | (simp; done) | (simp; omega))); (case hs => (simp only [aput, List.set_cons_succ, List.set_cons_zero]; rfl)))
    | ((with_reducible apply TS_conv_u8); (case hx => rfl); (case hs => (simp only [aput, List.set_cons_succ, List.set_cons_zero]; rfl)))
    | ((with_reducible apply TS_conv_byte); (case hx => rfl); (case hs => (simp only [aput, List.set_cons_succ, List.set_cons_zero]; rfl)))
    | ((with_reducible apply ATK_conv); (case hx => rfl); (case hs => (simp only [aput, List.set_cons_succ, List.set_cons_zero]; rfl)))
    | ((with_reducible apply TS_slice8_lh); (case hx => rfl); (case hy => rfl); (case hz => rfl); (case hl => rfl); (case hh => rfl); (case hlm => (first | (constructor <;> omega) | omega | (simp; done) | (simp; omega))); (case hs => (simp only [aput, List.set_cons_succ, List.set_cons_zero]; rfl)))
    | ((with_reducible apply TS_slice8_h); (case hx => rfl); (case hz => rfl); (case hh => rfl); (case hlm => (first | (constructor <;> omega) | omega | (simp; done) | (simp; omega))); (case hs => (simp only [aput, List.set_cons_succ, List.set_cons_zero]; rfl)))
    | ((with_reducible apply TS_slice8_l); (case hx => rfl); (case hy => rfl); (case hl => rfl); (case hlm => (first | (constructor <;> omega) | omega | (simp; done) | (simp; omega))); (case hs => (simp only [aput, List.set_cons_succ, List.set_cons_zero]; rfl)))
    | ((with_reducible apply ATK_string); (case hx => rfl); (case hb => rfl); (case hl => (first | rfl | with_reducible assumption | (simp; done) | (simp; omega) | omega)); (case hs => (simp only [aput, List.set_cons_succ, List.set_cons_zero]; rfl)))
    | ((with_reducible apply ATK_string_nils); (case hx => rfl); (case hs => (simp only [aput, List.set_cons_succ, List.set_cons_zero]; rfl)))
    | ((with_reducible apply TS_string_isB); (case hx => rfl); (case hb => assumption); (case hs => (simp only [aput, List.set_cons_succ, List.set_cons_zero]; rfl)))
    | ((with_reducible apply AWP_draw (n := 12)); (case hm => kernel_rfl); (case hn => rfl))
    | ((with_reducible apply AANY_done); (case hr => decide +kernel))
    | ((with_reducible apply AANY_take (i := 0)); (case hn => rfl); (case hr => decide +kernel); (case ho => rfl); (case hs => kernel_rfl); (case hf => decide +kernel))
    | ((with_reducible apply AANY_take (i := 1)); (case hn => rfl); (case hr => decide +kernel); (case ho => rfl); (case hs => kernel_rfl); (case hf => decide +kernel))
    | ((with_reducible apply AANY_take (i := 2)); (case hn => rfl); (case hr => decide +kernel); (case ho => rfl); (case hs => kernel_rfl); (case hf => decide +kernel))
    | ((with_reducible apply AANY_take (i := 3)); (case hn => rfl); (case hr => decide +kernel); (case ho => rfl); (case hs => kernel_rfl); (case hf => decide +kernel))
    | ((with_reducible apply AANY_take (i := 4)); (case hn => rfl); (case hr => decide +kernel); (case ho => rfl); (case hs => kernel_rfl); (case hf => decide +kernel))
    | ((with_reducible apply AANY_take (i := 5)); (case hn => rfl); (case hr => decide +kernel); (case ho => rfl); (case hs => kernel_rfl); (case hf => decide +kernel))
    | ((with_reducible apply AANY_take (i := 6)); (case hn => rfl); (case hr => decide +kernel); (case ho => rfl); (case hs => kernel_rfl); (case hf => decide +kernel))
    | ((with_reducible apply AANY_take (i := 7)); (case hn => rfl); (case hr => decide +kernel); (case ho => rfl); (case hs => kernel_rfl); (case hf => decide +kernel))
    | ((with_reducible apply AANY_take (i := 8)); (case hn => rfl); (case hr => decide +kernel); (case ho => rfl); (case hs => kernel_rfl); (case hf => decide +kernel); (first | (((with_reducible apply ATK_guard_yes); (case hy => rfl); (case hb => (first | with_reducible assumption | with_reducible rfl | (simp only [d1, d2, d3, d4, d5, d6, d7, d8, q1]; done) | (simp; done) | (simp; omega)))); (first | ((with_reducible apply TS_move); (case hx => rfl); (case hs => (simp only [aput, List.set_cons_succ, List.set_cons_zero]; rfl))) | ((with_reducible apply TS_assign); (case hx => rfl); (case hs => (simp only [aput, List.set_cons_succ, List.set_cons_zero]; rfl))) | ((with_reducible apply TS_pick_t); (case hc => rfl); (case hb => (first | with_reducible assumption | with_reducible rfl | (simp only [d1, d2, d3, d4, d5, d6, d7, d8, q1]; done) | (simp; done) | (simp; omega))); (case hx => rfl); (case hs => (simp only [aput, List.set_cons_succ, List.set_cons_zero]; rfl))) | ((with_reducible apply TS_pick_f); (case hc => rfl); (case hb => (first | with_reducible assumption | with_reducible rfl | (simp only [d1, d2, d3, d4, d5, d6, d7, d8, q1]; done) | (simp; done) | (simp; omega))); (case hx => rfl); (case hs => (simp only [aput, List.set_cons_succ, List.set_cons_zero]; rfl))) | ((with_reducible apply TS_eq8); (case hx => rfl); (case hy => rfl); (case hs => (simp only [aput, List.set_cons_succ, List.set_cons_zero]; rfl))) | ((with_reducible apply TS_ne8); (case hx => rfl); (case hy => rfl); (case hs => (simp only [aput, List.set_cons_succ, List.set_cons_zero]; rfl))) | ((with_reducible apply TS_bin); (case hx => rfl); (case hy => rfl); (case ho => rfl); (case hs => (simp only [aput, List.set_cons_succ, List.set_cons_zero]; rfl))) | ((with_reducible apply ATK_str); (case hx => rfl); (case hy => rfl); (case ho => rfl); (case hs => (simp only [aput, List.set_cons_succ, List.set_cons_zero]; rfl))) | ((with_reducible apply ATK_beq); (case hx => rfl); (case hy => rfl); (case hs => (simp only [aput, List.set_cons_succ, List.set_cons_zero]; rfl))) | ((with_reducible apply ATK_bne); (case hx => rfl); (case hy => rfl); (case hs => (simp only [aput, List.set_cons_succ, List.set_cons_zero]; rfl))) | ((with_reducible apply TS_conv_same); (case hx => rfl); (case hb => (first | (constructor <;> omega) | omega | (simp; done) | (simp; omega))); (case hs => (simp only [aput, List.set_cons_succ, List.set_cons_zero]; rfl))) | ((with_reducible apply TS_conv_u8); (case hx => rfl); (case hs => (simp only [aput, List.set_cons_succ, List.set_cons_zero]; rfl))) | ((with_reducible apply TS_conv_byte); (case hx => rfl); (case hs => (simp only [aput, List.set_cons_succ, List.set_cons_zero]; rfl))) | ((with_reducible apply ATK_conv); (case hx => rfl); (case hs => (simp only [aput, List.set_cons_succ, List.set_cons_zero]; rfl))) | ((with_reducible apply TS_slice8_lh); (case hx => rfl); (case hy => rfl); (case hz => rfl); (case hl => rfl); (case hh => rfl); (case hlm => (first | (constructor <;> omega) | omega | (simp; done) | (simp; omega))); (case hs => (simp only [aput, List.set_cons_succ, List.set_cons_zero]; rfl))) | ((with_reducible apply TS_slice8_h); (case hx => rfl); (case hz => rfl); (case hh => rfl); (case hlm => (first | (constructor <;> omega) | omega | (simp; done) | (simp; omega))); (case hs => (simp only [aput, List.set_cons_succ, List.set_cons_zero]; rfl))) | ((with_reducible apply TS_slice8_l); (case hx => rfl); (case hy => rfl); (case hl => rfl); (case hlm => (first | (constructor <;> omega) | omega | (simp; done) | (simp; omega))); (case hs => (simp only [aput, List.set_cons_succ, List.set_cons_zero]; rfl))) | ((with_reducible apply ATK_string); (case hx => rfl); (case hb => rfl); (case hl => (first | rfl | with_reducible assumption | (simp; done) | (simp; omega) | omega)); (case hs => (simp only [aput, List.set_cons_succ, List.set_cons_zero]; rfl))) | ((with_reducible apply ATK_string_nils); (case hx => rfl); (case hs => (simp only [aput, List.set_cons_succ, List.set_cons_zero]; rfl))) | ((with_reducible apply TS_string_isB); (case hx => rfl); (case hb => assumption); (case hs => (simp only [aput, List.set_cons_succ, List.set_cons_zero]; rfl))))) | ((with_reducible apply ATK_guard_no); (case hy => rfl); (case hb => (first | with_reducible assumption | with_reducible rfl | (simp only [d1, d2, d3, d4, d5, d6, d7, d8, q1]; done) | (simp; done) | (simp; omega))); (case hs => (simp only [aput, List.set_cons_succ, List.set_cons_zero]; rfl))) | ((with_reducible apply ATK_guard_und); (case hy => rfl); (case hs => (simp only [aput, List.set_cons_succ, List.set_cons_zero]; rfl))) | ((with_reducible apply TS_move); (case hx => rfl); (case hs => (simp only [aput, List.set_cons_succ, List.set_cons_zero]; rfl))) | ((with_reducible apply TS_assign); (case hx => rfl); (case hs => (simp only [aput, List.set_cons_succ, List.set_cons_zero]; rfl))) | ((with_reducible apply TS_pick_t); (case hc => rfl); (case hb => (first | with_reducible assumption | with_reducible rfl | (simp only [d1, d2, d3, d4, d5, d6, d7, d8, q1]; done) | (simp; done) | (simp; omega))); (case hx => rfl); (case hs => (simp only [aput, List.set_cons_succ, List.set_cons_zero]; rfl))) | ((with_reducible apply TS_pick_f); (case hc => rfl); (case hb => (first | with_reducible assumption | with_reducible rfl | (simp only [d1, d2, d3, d4, d5, d6, d7, d8, q1]; done) | (simp; done) | (simp; omega))); (case hx => rfl); (case hs => (simp only [aput, List.set_cons_succ, List.set_cons_zero]; rfl))) | ((with_reducible apply TS_eq8); (case hx => rfl); (case hy => rfl); (case hs => (simp only [aput, List.set_cons_succ, List.set_cons_zero]; rfl))) | ((with_reducible apply TS_ne8); (case hx => rfl); (case hy => rfl); (case hs => (simp only [aput, List.set_cons_succ, List.set_cons_zero]; rfl))) | ((with_reducible apply TS_bin); (case hx => rfl); (case hy => rfl); (case ho => rfl); (case hs => (simp only [aput, List.set_cons_succ, List.set_cons_zero]; rfl))) | ((with_reducible apply ATK_str); (case hx => rfl); (case hy => rfl); (case ho => rfl); (case hs => (simp only [aput, List.set_cons_succ, List.set_cons_zero]; rfl))) | ((with_reducible apply ATK_beq); (case hx => rfl); (case hy => rfl); (case hs => (simp only [aput, List.set_cons_succ, List.set_cons_zero]; rfl))) | ((with_reducible apply ATK_bne); (case hx => rfl); (case hy => rfl); (case hs => (simp only [aput, List.set_cons_succ, List.set_cons_zero]; rfl))) | ((with_reducible apply TS_conv_same); (case hx => rfl); (case hb => (first | (constructor <;> omega) | omega | (simp; done) | (simp; omega))); (case hs => (simp only [aput, List.set_cons_succ, List.set_cons_zero]; rfl))) | ((with_reducible apply TS_conv_u8); (case hx => rfl); (case hs => (simp only [aput, List.set_cons_succ, List.set_cons_zero]; rfl))) | ((with_reducible apply TS_conv_byte); (case hx => rfl); (case hs => (simp only [aput, List.set_cons_succ, List.set_cons_zero]; rfl))) | ((with_reducible apply ATK_conv); (case hx => rfl); (case hs => (simp only [aput, List.set_cons_succ, List.set_cons_zero]; rfl))) | ((with_reducible apply TS_slice8_lh); (case hx => rfl); (case hy => rfl); (case hz => rfl); (case hl => rfl); (case hh => rfl); (case hlm => (first | (constructor <;> omega) | omega | (simp; done) | (simp; omega))); (case hs => (simp only [aput, List.set_cons_succ, List.set_cons_zero]; rfl))) | ((with_reducible apply TS_slice8_h); (case hx => rfl); (case hz => rfl); (case hh => rfl); (case hlm => (first | (constructor <;> omega) | omega | (simp; done) | (simp; omega))); (case hs => (simp only [aput, List.set_cons_succ, List.set_cons_zero]; rfl))) | ((with_reducible apply TS_slice8_l); (case hx => rfl); (case hy => rfl); (case hl => rfl); (case hlm => (first | (constructor <;> omega) | omega | (simp; done) | (simp; omega))); (case hs => (simp only [aput, List.set_cons_succ, List.set_cons_zero]; rfl))) | ((with_reducible apply ATK_string); (case hx => rfl); (case hb => rfl); (case hl => (first | rfl | with_reducible assumption | (simp; done) | (simp; omega) | omega)); (case hs => (simp only [aput, List.set_cons_succ, List.set_cons_zero]; rfl))) | ((with_reducible apply ATK_string_nils); (case hx => rfl); (case hs => (simp only [aput, List.set_cons_succ, List.set_cons_zero]; rfl))) | ((with_reducible apply TS_string_isB); (case hx => rfl); (case hb => assumption); (case hs => (simp only [aput, List.set_cons_succ, List.set_cons_zero]; rfl)))))
    | ((with_reducible apply AANY_take (i := 9)); (case hn => rfl); (case hr => decide +kernel); (case ho => rfl); (case hs => kernel_rfl); (case hf => decide +kernel))
    | ((with_reducible apply AANY_take (i := 10)); (case hn => rfl); (case hr => decide +kernel); (case ho => rfl); (case hs => kernel_rfl); (case hf => decide +kernel))
    | ((with_reducible apply AANY_take (i := 11)); (case hn => rfl); (case hr => decide +kernel); (case ho => rfl); (case hs => kernel_rfl); (case hf => decide +kernel))
    | ((with_reducible apply AANY_step [8]); (case hn => rfl); (case hr => decide +kernel); (case hne => decide +kernel))
    | with_reducible exact ACands_nil
    | with_reducible refine ACands_cons ?_ ?_
    | ((with_reducible refine ACand_no ?_); decide +kernel)
    | ((with_reducible apply ACand_yes); (case ho => rfl))
    | fail)
  all_goals
    refine ARet_ret rfl (.tmpO rfl .nil) ?_
    simp [aone, exN_take key info (show F ≤ N by omega)]
theorem MacSpreads_walk (w : World) (Akey : Option Addr) (nkey ckey : Nat) (key : List UInt8) (hkey : RBytes w [.slice Akey nkey ckey] key) (Ainfo : Option Addr) (ninfo cinfo : Nat) (info : List UInt8) (hinfo : RBytes w [.slice Ainfo ninfo cinfo] info) (n : Int) (hn : (Lit.int .i64 n).wf = true) (fewer : Int) (hfewer : (Lit.int .i64 fewer).wf = true) :
    Calls Try.prog 7 #[.slice Akey nkey ckey, .slice Ainfo ninfo cinfo, .int .i64 n, .int .i64 fewer] w (Tells w true) := (MacSpreads_law key info n fewer).tells (.cons hkey.reps (.cons hinfo.reps (.cons Reps_int (.cons Reps_int .nil))))
end Go.Proofs.Ytdekfobcdmlelaa
