/- The Reader's methods, by the abstract machine. -/
import Derived.Test.YtnjkklkjlloedaaTy
import Derived.Test.YtnjkklkjlloedaaCode5
import Derived.KernelRfl
namespace Go.Proofs.Ytnjkklkjlloedaa
open Go.RowKit
set_option linter.unusedVariables false
set_option linter.unusedSimpArgs false
set_option maxRecDepth 10000
/-- A reader's cells. -/
abbrev rdC (l : List UInt8) (bad : Bool) : List AV := [.sl .none (l.map bvA) l.length, .bool bad]
theorem rdC_shut (l : List UInt8) (bad : Bool) : AV.shutL (rdC l bad) = true := by simp [rdC, AV.shutL, AV.shut, shutL_bvA]
theorem take_bad_mth (l : List UInt8) (bad : Bool) (n : Nat) (h : bad = true ∨ l.length < n) : AMth Try.prog 81 (rdC l bad) [.int .i64 (n : Int)] .nils (rdC l true) := by
  refine AMth.mk (by simp [AV.shutL, AV.shut]) (rdC_shut _ _) (by simp [AV.shut]) (rdC_shut _ _) ?_
  unfold rdC
  refine ACalls_body Try.func81 rfl rfl ?_
  simp only [Try.ntmps81, List.length_cons, List.length_nil, Nat.reduceAdd, Nat.reduceSub, List.replicate_succ, List.replicate_zero, List.cons_append, List.nil_append]
  cases bad with
  | true =>
    repeat (first
      | with_reducible refine AWP_seq ?_
      | with_reducible refine AWP_region ?_
      | with_reducible refine AOPS_nil ?_
      | with_reducible refine AThen_normal ?_
      | with_reducible refine AThen_ret ?_
      | with_reducible refine AThen_exit ?_
      | with_reducible refine AThen_goto ?_
      | with_reducible refine AJump_normal ?_
      | with_reducible refine AJump_ret ?_
      | with_reducible refine AJump_exit ?_
      | with_reducible refine AJump_goto ?_
      | with_reducible refine ANoGoto_normal ?_
      | with_reducible refine ANoGoto_ret ?_
      | with_reducible refine ANoGoto_exit ?_
      | ((with_reducible apply AWP_scope 0); (case hf => rfl))
      | with_reducible refine ABlock_goto ?_
      | with_reducible refine ARound_ret ?_
      | with_reducible refine ARound_exit ?_
      | with_reducible refine ARound_goto ?_
      | with_reducible refine ANext_goto ?_
      | with_reducible refine ALoopQ_goto ?_
      | with_reducible refine AWP_skip ?_
      | with_reducible refine AWP_ret ?_
      | with_reducible refine AWP_exit ?_
      | with_reducible refine AWP_label ?_
      | with_reducible refine AWP_goto ?_
      | ((with_reducible apply AWP_cond_t); (case hc => rfl); (case hb => (first | with_reducible assumption | with_reducible rfl | (simp; done) | (simp; omega))))
      | ((with_reducible apply AWP_cond_f); (case hc => rfl); (case hb => (first | with_reducible assumption | with_reducible rfl | (simp; done) | (simp; omega))))
      | ((with_reducible apply AOPS_guard_yes); (case hy => rfl); (case hb => (first | with_reducible assumption | with_reducible rfl | (simp; done) | (simp; omega))))
      | ((with_reducible apply AOPS_guard_no); (case hy => rfl); (case hb => (first | with_reducible assumption | with_reducible rfl | (simp; done) | (simp; omega))); (case hs => first | exact aput_ok rfl | (simp only [aput, List.set_cons_succ, List.set_cons_zero]; rfl) | rfl))
      | ((with_reducible apply AOPS_guard_und); (case hy => rfl); (case hs => first | exact aput_ok rfl | (simp only [aput, List.set_cons_succ, List.set_cons_zero]; rfl) | rfl))
      | ((with_reducible apply S_move); (case hx => rfl); (case hs => first | exact aput_ok rfl | (simp only [aput, List.set_cons_succ, List.set_cons_zero]; rfl) | rfl))
      | ((with_reducible apply S_assign); (case hx => rfl); (case hs => first | exact aput_ok rfl | (simp only [aput, List.set_cons_succ, List.set_cons_zero]; rfl) | rfl))
      | ((with_reducible apply S_pick_t); (case hc => rfl); (case hb => (first | with_reducible assumption | with_reducible rfl | (simp; done) | (simp; omega))); (case hx => rfl); (case hs => first | exact aput_ok rfl | (simp only [aput, List.set_cons_succ, List.set_cons_zero]; rfl) | rfl))
      | ((with_reducible apply S_pick_f); (case hc => rfl); (case hb => (first | with_reducible assumption | with_reducible rfl | (simp; done) | (simp; omega))); (case hx => rfl); (case hs => first | exact aput_ok rfl | (simp only [aput, List.set_cons_succ, List.set_cons_zero]; rfl) | rfl))
      | ((with_reducible apply AOPS_len_sl); (case hx => rfl); (case hs => first | exact aput_ok rfl | (simp only [aput, List.set_cons_succ, List.set_cons_zero]; rfl) | rfl))
      | ((with_reducible apply AOPS_len_nils); (case hx => rfl); (case hs => first | exact aput_ok rfl | (simp only [aput, List.set_cons_succ, List.set_cons_zero]; rfl) | rfl))
      | ((with_reducible apply AOPS_len_row); (case hx => rfl); (case hs => first | exact aput_ok rfl | (simp only [aput, List.set_cons_succ, List.set_cons_zero]; rfl) | rfl))
      | ((with_reducible apply AOPS_len_str); (case hx => rfl); (case hs => first | exact aput_ok rfl | (simp only [aput, List.set_cons_succ, List.set_cons_zero]; rfl) | rfl))
      | ((with_reducible apply S_len_isB); (case hx => rfl); (case hb => assumption); (case hs => first | exact aput_ok rfl | (simp only [aput, List.set_cons_succ, List.set_cons_zero]; rfl) | rfl))
      | ((with_reducible apply S_bin); (case hx => rfl); (case hy => rfl); (case ho => rfl); (case hs => first | exact aput_ok rfl | (simp only [aput, List.set_cons_succ, List.set_cons_zero]; rfl) | rfl))
      | ((with_reducible apply AOPS_str); (case hx => rfl); (case hy => rfl); (case ho => rfl); (case hs => first | exact aput_ok rfl | (simp only [aput, List.set_cons_succ, List.set_cons_zero]; rfl) | rfl))
      | ((with_reducible apply AOPS_fieldAddr); (case hx => rfl); (case hs => first | exact aput_ok rfl | (simp only [aput, List.set_cons_succ, List.set_cons_zero]; rfl) | rfl))
      | ((with_reducible apply AOPS_fieldAddr_epr); (case hx => rfl); (case hs => first | exact aput_ok rfl | (simp only [aput, List.set_cons_succ, List.set_cons_zero]; rfl) | rfl))
      | ((with_reducible apply S_load_all); (case hx => rfl); (case ho => rfl); (case hp => rfl); (case hs => first | exact aput_ok rfl | (simp only [aput, List.set_cons_succ, List.set_cons_zero]; rfl) | rfl))
      | ((with_reducible apply S_load_agg); (case hx => rfl); (case ho => rfl); (case hp => rfl); (case hs => first | exact aput_ok rfl | (simp only [aput, List.set_cons_succ, List.set_cons_zero]; rfl) | rfl))
      | ((with_reducible apply S_load_epr_sub); (case hx => rfl); (case hp => rfl); (case hs => first | exact aput_ok rfl | (simp only [aput, List.set_cons_succ, List.set_cons_zero]; rfl) | rfl))
      | ((with_reducible apply S_load); (case hx => rfl); (case ho => rfl); (case hp => rfl); (case hs => first | exact aput_ok rfl | (simp only [aput, List.set_cons_succ, List.set_cons_zero]; rfl) | rfl))
      | ((with_reducible apply S_load_epr); (case hx => rfl); (case hp => rfl); (case hs => first | exact aput_ok rfl | (simp only [aput, List.set_cons_succ, List.set_cons_zero]; rfl) | rfl))
      | ((with_reducible apply S_load_byte); (case hx => rfl); (case hlt => (first | (constructor <;> omega) | omega | (simp; done) | (simp; omega))); (case hs => first | exact aput_ok rfl | (simp only [aput, List.set_cons_succ, List.set_cons_zero]; rfl) | rfl))
      | ((with_reducible apply U_store); (case hx => rfl); (case hy => rfl); (case ho => rfl); (case hf => rfl); (case hc => rfl); (case hob => rfl); (case hs => first | exact aput_ok rfl | (simp only [aput, List.set_cons_succ, List.set_cons_zero]; rfl) | rfl))
      | ((with_reducible apply U_store_all); (case hx => rfl); (case hy => rfl); (case ho => rfl); (case hf => rfl); (case hl => rfl); (case hle => rfl); (case hob => rfl); (case hs => first | exact aput_ok rfl | (simp only [aput, List.set_cons_succ, List.set_cons_zero]; rfl) | rfl))
      | ((with_reducible apply AOPS_nilCheck); (case hx => rfl); (case hs => first | exact aput_ok rfl | (simp only [aput, List.set_cons_succ, List.set_cons_zero]; rfl) | rfl))
      | ((with_reducible apply AOPS_slice_hm); (case hx => rfl); (case hy => rfl); (case hz => rfl); (case hh => rfl); (case hj => rfl); (case hlm => (first | (constructor <;> omega) | omega | (simp; done) | (simp; omega))); (case hs => first | exact aput_ok rfl | (simp only [aput, List.set_cons_succ, List.set_cons_zero]; rfl) | rfl))
      | ((with_reducible apply S_slice8_lh); (case hx => rfl); (case hy => rfl); (case hz => rfl); (case hl => rfl); (case hh => rfl); (case hlm => (first | (constructor <;> omega) | omega | (simp; done) | (simp; omega))); (case hs => first | exact aput_ok rfl | (simp only [aput, List.set_cons_succ, List.set_cons_zero]; rfl) | rfl))
      | ((with_reducible apply S_slice8_h); (case hx => rfl); (case hz => rfl); (case hh => rfl); (case hlm => (first | (constructor <;> omega) | omega | (simp; done) | (simp; omega))); (case hs => first | exact aput_ok rfl | (simp only [aput, List.set_cons_succ, List.set_cons_zero]; rfl) | rfl))
      | ((with_reducible apply S_slice8_l); (case hx => rfl); (case hy => rfl); (case hl => rfl); (case hlm => (first | (constructor <;> omega) | omega | (simp; done) | (simp; omega))); (case hs => first | exact aput_ok rfl | (simp only [aput, List.set_cons_succ, List.set_cons_zero]; rfl) | rfl))
      | fail)
    refine ARet_ret rfl (.tmpO rfl .nil) ?_
    exact ⟨.inl rfl, Int.le_refl _, _, rfl, .inl rfl⟩
  | false =>
    have h' : l.length < n := by simpa using h
    have d1 : decide ((l.length : Int) < (n : Int)) = true := by simp; omega
    repeat (first
      | with_reducible refine AWP_seq ?_
      | with_reducible refine AWP_region ?_
      | with_reducible refine AOPS_nil ?_
      | with_reducible refine AThen_normal ?_
      | with_reducible refine AThen_ret ?_
      | with_reducible refine AThen_exit ?_
      | with_reducible refine AThen_goto ?_
      | with_reducible refine AJump_normal ?_
      | with_reducible refine AJump_ret ?_
      | with_reducible refine AJump_exit ?_
      | with_reducible refine AJump_goto ?_
      | with_reducible refine ANoGoto_normal ?_
      | with_reducible refine ANoGoto_ret ?_
      | with_reducible refine ANoGoto_exit ?_
      | ((with_reducible apply AWP_scope 0); (case hf => rfl))
      | with_reducible refine ABlock_goto ?_
      | with_reducible refine ARound_ret ?_
      | with_reducible refine ARound_exit ?_
      | with_reducible refine ARound_goto ?_
      | with_reducible refine ANext_goto ?_
      | with_reducible refine ALoopQ_goto ?_
      | with_reducible refine AWP_skip ?_
      | with_reducible refine AWP_ret ?_
      | with_reducible refine AWP_exit ?_
      | with_reducible refine AWP_label ?_
      | with_reducible refine AWP_goto ?_
      | ((with_reducible apply AWP_cond_t); (case hc => rfl); (case hb => (first | with_reducible assumption | with_reducible rfl | (simp only [d1]; done) | (simp; done) | (simp; omega))))
      | ((with_reducible apply AWP_cond_f); (case hc => rfl); (case hb => (first | with_reducible assumption | with_reducible rfl | (simp only [d1]; done) | (simp; done) | (simp; omega))))
      | ((with_reducible apply AOPS_guard_yes); (case hy => rfl); (case hb => (first | with_reducible assumption | with_reducible rfl | (simp only [d1]; done) | (simp; done) | (simp; omega))))
      | ((with_reducible apply AOPS_guard_no); (case hy => rfl); (case hb => (first | with_reducible assumption | with_reducible rfl | (simp only [d1]; done) | (simp; done) | (simp; omega))); (case hs => first | exact aput_ok rfl | (simp only [aput, List.set_cons_succ, List.set_cons_zero]; rfl) | rfl))
      | ((with_reducible apply AOPS_guard_und); (case hy => rfl); (case hs => first | exact aput_ok rfl | (simp only [aput, List.set_cons_succ, List.set_cons_zero]; rfl) | rfl))
      | ((with_reducible apply S_move); (case hx => rfl); (case hs => first | exact aput_ok rfl | (simp only [aput, List.set_cons_succ, List.set_cons_zero]; rfl) | rfl))
      | ((with_reducible apply S_assign); (case hx => rfl); (case hs => first | exact aput_ok rfl | (simp only [aput, List.set_cons_succ, List.set_cons_zero]; rfl) | rfl))
      | ((with_reducible apply S_pick_t); (case hc => rfl); (case hb => (first | with_reducible assumption | with_reducible rfl | (simp only [d1]; done) | (simp; done) | (simp; omega))); (case hx => rfl); (case hs => first | exact aput_ok rfl | (simp only [aput, List.set_cons_succ, List.set_cons_zero]; rfl) | rfl))
      | ((with_reducible apply S_pick_f); (case hc => rfl); (case hb => (first | with_reducible assumption | with_reducible rfl | (simp only [d1]; done) | (simp; done) | (simp; omega))); (case hx => rfl); (case hs => first | exact aput_ok rfl | (simp only [aput, List.set_cons_succ, List.set_cons_zero]; rfl) | rfl))
      | ((with_reducible apply AOPS_len_sl); (case hx => rfl); (case hs => first | exact aput_ok rfl | (simp only [aput, List.set_cons_succ, List.set_cons_zero]; rfl) | rfl))
      | ((with_reducible apply AOPS_len_nils); (case hx => rfl); (case hs => first | exact aput_ok rfl | (simp only [aput, List.set_cons_succ, List.set_cons_zero]; rfl) | rfl))
      | ((with_reducible apply AOPS_len_row); (case hx => rfl); (case hs => first | exact aput_ok rfl | (simp only [aput, List.set_cons_succ, List.set_cons_zero]; rfl) | rfl))
      | ((with_reducible apply AOPS_len_str); (case hx => rfl); (case hs => first | exact aput_ok rfl | (simp only [aput, List.set_cons_succ, List.set_cons_zero]; rfl) | rfl))
      | ((with_reducible apply S_len_isB); (case hx => rfl); (case hb => assumption); (case hs => first | exact aput_ok rfl | (simp only [aput, List.set_cons_succ, List.set_cons_zero]; rfl) | rfl))
      | ((with_reducible apply S_bin); (case hx => rfl); (case hy => rfl); (case ho => rfl); (case hs => first | exact aput_ok rfl | (simp only [aput, List.set_cons_succ, List.set_cons_zero]; rfl) | rfl))
      | ((with_reducible apply AOPS_str); (case hx => rfl); (case hy => rfl); (case ho => rfl); (case hs => first | exact aput_ok rfl | (simp only [aput, List.set_cons_succ, List.set_cons_zero]; rfl) | rfl))
      | ((with_reducible apply AOPS_fieldAddr); (case hx => rfl); (case hs => first | exact aput_ok rfl | (simp only [aput, List.set_cons_succ, List.set_cons_zero]; rfl) | rfl))
      | ((with_reducible apply AOPS_fieldAddr_epr); (case hx => rfl); (case hs => first | exact aput_ok rfl | (simp only [aput, List.set_cons_succ, List.set_cons_zero]; rfl) | rfl))
      | ((with_reducible apply S_load_all); (case hx => rfl); (case ho => rfl); (case hp => rfl); (case hs => first | exact aput_ok rfl | (simp only [aput, List.set_cons_succ, List.set_cons_zero]; rfl) | rfl))
      | ((with_reducible apply S_load_agg); (case hx => rfl); (case ho => rfl); (case hp => rfl); (case hs => first | exact aput_ok rfl | (simp only [aput, List.set_cons_succ, List.set_cons_zero]; rfl) | rfl))
      | ((with_reducible apply S_load_epr_sub); (case hx => rfl); (case hp => rfl); (case hs => first | exact aput_ok rfl | (simp only [aput, List.set_cons_succ, List.set_cons_zero]; rfl) | rfl))
      | ((with_reducible apply S_load); (case hx => rfl); (case ho => rfl); (case hp => rfl); (case hs => first | exact aput_ok rfl | (simp only [aput, List.set_cons_succ, List.set_cons_zero]; rfl) | rfl))
      | ((with_reducible apply S_load_epr); (case hx => rfl); (case hp => rfl); (case hs => first | exact aput_ok rfl | (simp only [aput, List.set_cons_succ, List.set_cons_zero]; rfl) | rfl))
      | ((with_reducible apply S_load_byte); (case hx => rfl); (case hlt => (first | (constructor <;> omega) | omega | (simp; done) | (simp; omega))); (case hs => first | exact aput_ok rfl | (simp only [aput, List.set_cons_succ, List.set_cons_zero]; rfl) | rfl))
      | ((with_reducible apply U_store); (case hx => rfl); (case hy => rfl); (case ho => rfl); (case hf => rfl); (case hc => rfl); (case hob => rfl); (case hs => first | exact aput_ok rfl | (simp only [aput, List.set_cons_succ, List.set_cons_zero]; rfl) | rfl))
      | ((with_reducible apply U_store_all); (case hx => rfl); (case hy => rfl); (case ho => rfl); (case hf => rfl); (case hl => rfl); (case hle => rfl); (case hob => rfl); (case hs => first | exact aput_ok rfl | (simp only [aput, List.set_cons_succ, List.set_cons_zero]; rfl) | rfl))
      | ((with_reducible apply AOPS_nilCheck); (case hx => rfl); (case hs => first | exact aput_ok rfl | (simp only [aput, List.set_cons_succ, List.set_cons_zero]; rfl) | rfl))
      | ((with_reducible apply AOPS_slice_hm); (case hx => rfl); (case hy => rfl); (case hz => rfl); (case hh => rfl); (case hj => rfl); (case hlm => (first | (constructor <;> omega) | omega | (simp; done) | (simp; omega))); (case hs => first | exact aput_ok rfl | (simp only [aput, List.set_cons_succ, List.set_cons_zero]; rfl) | rfl))
      | ((with_reducible apply S_slice8_lh); (case hx => rfl); (case hy => rfl); (case hz => rfl); (case hl => rfl); (case hh => rfl); (case hlm => (first | (constructor <;> omega) | omega | (simp; done) | (simp; omega))); (case hs => first | exact aput_ok rfl | (simp only [aput, List.set_cons_succ, List.set_cons_zero]; rfl) | rfl))
      | ((with_reducible apply S_slice8_h); (case hx => rfl); (case hz => rfl); (case hh => rfl); (case hlm => (first | (constructor <;> omega) | omega | (simp; done) | (simp; omega))); (case hs => first | exact aput_ok rfl | (simp only [aput, List.set_cons_succ, List.set_cons_zero]; rfl) | rfl))
      | ((with_reducible apply S_slice8_l); (case hx => rfl); (case hy => rfl); (case hl => rfl); (case hlm => (first | (constructor <;> omega) | omega | (simp; done) | (simp; omega))); (case hs => first | exact aput_ok rfl | (simp only [aput, List.set_cons_succ, List.set_cons_zero]; rfl) | rfl))
      | fail)
    refine ARet_ret rfl (.tmpO rfl .nil) ?_
    exact ⟨.inl rfl, Int.le_refl _, _, rfl, .inl rfl⟩
theorem take_ok_mth (l : List UInt8) (n : Nat) (h : n ≤ l.length) : AMth Try.prog 81 (rdC l false) [.int .i64 (n : Int)] (.sl .full ((l.take n).map bvA) n) (rdC (l.drop n) false) := by
  refine AMth.mk (by simp [AV.shutL, AV.shut]) (rdC_shut _ _) (by unfold AV.shut; exact shutL_bvA _) (rdC_shut _ _) ?_
  unfold rdC
  refine ACalls_body Try.func81 rfl rfl ?_
  simp only [Try.ntmps81, List.length_cons, List.length_nil, Nat.reduceAdd, Nat.reduceSub, List.replicate_succ, List.replicate_zero, List.cons_append, List.nil_append]
  have d1 : decide ((l.length : Int) < (n : Int)) = false := by simp; omega
  have hd : (l.drop n).take (l.length - n) = l.drop n := List.take_of_length_le (by simp)
  repeat (first
    | with_reducible refine AWP_seq ?_
    | with_reducible refine AWP_region ?_
    | with_reducible refine AOPS_nil ?_
    | with_reducible refine AThen_normal ?_
    | with_reducible refine AThen_ret ?_
    | with_reducible refine AThen_exit ?_
    | with_reducible refine AThen_goto ?_
    | with_reducible refine AJump_normal ?_
    | with_reducible refine AJump_ret ?_
    | with_reducible refine AJump_exit ?_
    | with_reducible refine AJump_goto ?_
    | with_reducible refine ANoGoto_normal ?_
    | with_reducible refine ANoGoto_ret ?_
    | with_reducible refine ANoGoto_exit ?_
    | ((with_reducible apply AWP_scope 0); (case hf => rfl))
    | with_reducible refine ABlock_goto ?_
    | with_reducible refine ARound_ret ?_
    | with_reducible refine ARound_exit ?_
    | with_reducible refine ARound_goto ?_
    | with_reducible refine ANext_goto ?_
    | with_reducible refine ALoopQ_goto ?_
    | with_reducible refine AWP_skip ?_
    | with_reducible refine AWP_ret ?_
    | with_reducible refine AWP_exit ?_
    | with_reducible refine AWP_label ?_
    | with_reducible refine AWP_goto ?_
    | ((with_reducible apply AWP_cond_t); (case hc => rfl); (case hb => (first | with_reducible assumption | with_reducible rfl | (simp only [d1]; done) | (simp; done) | (simp; omega))))
    | ((with_reducible apply AWP_cond_f); (case hc => rfl); (case hb => (first | with_reducible assumption | with_reducible rfl | (simp only [d1]; done) | (simp; done) | (simp; omega))))
    | ((with_reducible apply AOPS_guard_yes); (case hy => rfl); (case hb => (first | with_reducible assumption | with_reducible rfl | (simp only [d1]; done) | (simp; done) | (simp; omega))))
    | ((with_reducible apply AOPS_guard_no); (case hy => rfl); (case hb => (first | with_reducible assumption | with_reducible rfl | (simp only [d1]; done) | (simp; done) | (simp; omega))); (case hs => first | exact aput_ok rfl | (simp only [aput, List.set_cons_succ, List.set_cons_zero]; rfl) | rfl))
    | ((with_reducible apply AOPS_guard_und); (case hy => rfl); (case hs => first | exact aput_ok rfl | (simp only [aput, List.set_cons_succ, List.set_cons_zero]; rfl) | rfl))
    | ((with_reducible apply S_move); (case hx => rfl); (case hs => first | exact aput_ok rfl | (simp only [aput, List.set_cons_succ, List.set_cons_zero]; rfl) | rfl))
    | ((with_reducible apply S_assign); (case hx => rfl); (case hs => first | exact aput_ok rfl | (simp only [aput, List.set_cons_succ, List.set_cons_zero]; rfl) | rfl))
    | ((with_reducible apply S_pick_t); (case hc => rfl); (case hb => (first | with_reducible assumption | with_reducible rfl | (simp only [d1]; done) | (simp; done) | (simp; omega))); (case hx => rfl); (case hs => first | exact aput_ok rfl | (simp only [aput, List.set_cons_succ, List.set_cons_zero]; rfl) | rfl))
    | ((with_reducible apply S_pick_f); (case hc => rfl); (case hb => (first | with_reducible assumption | with_reducible rfl | (simp only [d1]; done) | (simp; done) | (simp; omega))); (case hx => rfl); (case hs => first | exact aput_ok rfl | (simp only [aput, List.set_cons_succ, List.set_cons_zero]; rfl) | rfl))
    | ((with_reducible apply AOPS_len_sl); (case hx => rfl); (case hs => first | exact aput_ok rfl | (simp only [aput, List.set_cons_succ, List.set_cons_zero]; rfl) | rfl))
    | ((with_reducible apply AOPS_len_nils); (case hx => rfl); (case hs => first | exact aput_ok rfl | (simp only [aput, List.set_cons_succ, List.set_cons_zero]; rfl) | rfl))
    | ((with_reducible apply AOPS_len_row); (case hx => rfl); (case hs => first | exact aput_ok rfl | (simp only [aput, List.set_cons_succ, List.set_cons_zero]; rfl) | rfl))
    | ((with_reducible apply AOPS_len_str); (case hx => rfl); (case hs => first | exact aput_ok rfl | (simp only [aput, List.set_cons_succ, List.set_cons_zero]; rfl) | rfl))
    | ((with_reducible apply S_len_isB); (case hx => rfl); (case hb => assumption); (case hs => first | exact aput_ok rfl | (simp only [aput, List.set_cons_succ, List.set_cons_zero]; rfl) | rfl))
    | ((with_reducible apply S_bin); (case hx => rfl); (case hy => rfl); (case ho => rfl); (case hs => first | exact aput_ok rfl | (simp only [aput, List.set_cons_succ, List.set_cons_zero]; rfl) | rfl))
    | ((with_reducible apply AOPS_str); (case hx => rfl); (case hy => rfl); (case ho => rfl); (case hs => first | exact aput_ok rfl | (simp only [aput, List.set_cons_succ, List.set_cons_zero]; rfl) | rfl))
    | ((with_reducible apply AOPS_fieldAddr); (case hx => rfl); (case hs => first | exact aput_ok rfl | (simp only [aput, List.set_cons_succ, List.set_cons_zero]; rfl) | rfl))
    | ((with_reducible apply AOPS_fieldAddr_epr); (case hx => rfl); (case hs => first | exact aput_ok rfl | (simp only [aput, List.set_cons_succ, List.set_cons_zero]; rfl) | rfl))
    | ((with_reducible apply S_load_all); (case hx => rfl); (case ho => rfl); (case hp => rfl); (case hs => first | exact aput_ok rfl | (simp only [aput, List.set_cons_succ, List.set_cons_zero]; rfl) | rfl))
    | ((with_reducible apply S_load_agg); (case hx => rfl); (case ho => rfl); (case hp => rfl); (case hs => first | exact aput_ok rfl | (simp only [aput, List.set_cons_succ, List.set_cons_zero]; rfl) | rfl))
    | ((with_reducible apply S_load_epr_sub); (case hx => rfl); (case hp => rfl); (case hs => first | exact aput_ok rfl | (simp only [aput, List.set_cons_succ, List.set_cons_zero]; rfl) | rfl))
    | ((with_reducible apply S_load); (case hx => rfl); (case ho => rfl); (case hp => rfl); (case hs => first | exact aput_ok rfl | (simp only [aput, List.set_cons_succ, List.set_cons_zero]; rfl) | rfl))
    | ((with_reducible apply S_load_epr); (case hx => rfl); (case hp => rfl); (case hs => first | exact aput_ok rfl | (simp only [aput, List.set_cons_succ, List.set_cons_zero]; rfl) | rfl))
    | ((with_reducible apply S_load_byte); (case hx => rfl); (case hlt => (first | (constructor <;> omega) | omega | (simp; done) | (simp; omega))); (case hs => first | exact aput_ok rfl | (simp only [aput, List.set_cons_succ, List.set_cons_zero]; rfl) | rfl))
    | ((with_reducible apply U_store); (case hx => rfl); (case hy => rfl); (case ho => rfl); (case hf => rfl); (case hc => rfl); (case hob => rfl); (case hs => first | exact aput_ok rfl | (simp only [aput, List.set_cons_succ, List.set_cons_zero]; rfl) | rfl))
    | ((with_reducible apply U_store_all); (case hx => rfl); (case hy => rfl); (case ho => rfl); (case hf => rfl); (case hl => rfl); (case hle => rfl); (case hob => rfl); (case hs => first | exact aput_ok rfl | (simp only [aput, List.set_cons_succ, List.set_cons_zero]; rfl) | rfl))
    | ((with_reducible apply AOPS_nilCheck); (case hx => rfl); (case hs => first | exact aput_ok rfl | (simp only [aput, List.set_cons_succ, List.set_cons_zero]; rfl) | rfl))
    | ((with_reducible apply AOPS_slice_hm); (case hx => rfl); (case hy => rfl); (case hz => rfl); (case hh => rfl); (case hj => rfl); (case hlm => (first | (constructor <;> omega) | omega | (simp; done) | (simp; omega))); (case hs => first | exact aput_ok rfl | (simp only [aput, List.set_cons_succ, List.set_cons_zero]; rfl) | rfl))
    | ((with_reducible apply S_slice8_lh); (case hx => rfl); (case hy => rfl); (case hz => rfl); (case hl => rfl); (case hh => rfl); (case hlm => (first | (constructor <;> omega) | omega | (simp; done) | (simp; omega))); (case hs => first | exact aput_ok rfl | (simp only [aput, List.set_cons_succ, List.set_cons_zero]; rfl) | rfl))
    | ((with_reducible apply S_slice8_h); (case hx => rfl); (case hz => rfl); (case hh => rfl); (case hlm => (first | (constructor <;> omega) | omega | (simp; done) | (simp; omega))); (case hs => first | exact aput_ok rfl | (simp only [aput, List.set_cons_succ, List.set_cons_zero]; rfl) | rfl))
    | ((with_reducible apply S_slice8_l); (case hx => rfl); (case hy => rfl); (case hl => rfl); (case hlm => (first | (constructor <;> omega) | omega | (simp; done) | (simp; omega))); (case hs => first | exact aput_ok rfl | (simp only [aput, List.set_cons_succ, List.set_cons_zero]; rfl) | rfl))
    | fail)
  refine ARet_ret rfl (.tmpO rfl .nil) ?_
  refine ⟨.inl ?_, Int.le_refl _, _, rfl, .inl ?_⟩
  · simp [aone, List.map_take]
  · rw [hd, List.length_drop]
section
variable {P : Program} {ops : Array Oper} {r : List Oper} {sl sl' : List AV} {σ σ' : ASt} {Q : Exit → List AV → ASt → Prop} {dst : Option Tmp} {ty : TypeId} {pos : String} {after : Array Edge} {x y z : Operand}
theorem S_shl8 {t t' : TypeId} (n : Nat) (hx : aev sl x = .int .i64 (n : Int)) (hy : aev sl y = .int .u64 8) (hn : n < 256 ^ 5) (hs : aput sl dst (.int .i64 ((n : Int) * 256)) = sl') (h : AOPS P ops r sl' σ Q) : AOPS P ops (⟨dst, .binOp .shl t x y t', ty, pos, after, none⟩ :: r) sl σ Q :=
  AOPS_shl hx hy (by decide) (by rw [show ((2 : Int) ^ (8 : Int).toNat) = 256 from rfl, wraps_i64 _ (by omega) (by omega)]; exact hs) h
theorem S_or8 {t t' : TypeId} (n : Nat) (c : UInt8) (hx : aev sl x = .int .i64 ((n : Int) * 256)) (hy : aev sl y = .int .i64 (c.toNat : Int)) (hn : n < 256 ^ 5) (hs : aput sl dst (.int .i64 ((n * 256 + c.toNat : Nat) : Int)) = sl') (h : AOPS P ops r sl' σ Q) : AOPS P ops (⟨dst, .binOp .or t x y t', ty, pos, after, none⟩ :: r) sl σ Q :=
  AOPS_bin hx hy (by simp only [abin]; rw [or_byte n c.toNat hn c.toNat_lt]) hs h
end
end Go.Proofs.Ytnjkklkjlloedaa
