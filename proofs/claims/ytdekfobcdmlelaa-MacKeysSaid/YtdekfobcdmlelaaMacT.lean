/- Mac by the abstract machine: mac.Code, mac.Extract, the reference's Sum, pad, Code. -/
import Derived.Test.YtdekfobcdmlelaaTy
import Derived.Test.YtdekfobcdmlelaaMacB
import Derived.Test.YtdekfobcdmlelaaRefI
import Derived.KernelRfl
namespace Go.Proofs.Ytdekfobcdmlelaa
open Go.RowKit
set_option linter.unusedVariables false
set_option linter.unusedSimpArgs false
set_option maxRecDepth 10000
variable {M : MM} {w : World}

theorem IsBs.parts {cs : List AV} {ls : List (List UInt8)} {vs : List Value} (h : IsBs cs ls) (hr : RepsL M w cs vs) : Parts w vs ls := by
  have hl := hr.length
  refine ⟨by rw [hl, h.1], fun k v b hv hb => ?_⟩
  have hk : k < cs.length := by rw [← hl]; exact (List.getElem?_eq_some_iff.1 hv).1
  obtain ⟨u, h1, h2⟩ := hr.get k cs[k] (List.getElem?_eq_getElem hk)
  rw [hv] at h1; cases h1
  obtain ⟨A, c, h3, h4⟩ := (h.2 k cs[k] b (List.getElem?_eq_getElem hk) hb).rd h2
  exact ⟨A, _, c, h3, h4⟩
theorem rd_of_reps {own : AOwn} {cs : List AV} {n : Nat} {v : Value} (h : Reps M w (.sl own cs n) v) (hn : cs.length = n) : ∃ A c vs, v = .slice A n c ∧ Rd w 1 A n c vs ∧ RepsL M w cs vs := by
  unfold Reps at h
  obtain ⟨A, c, vs, rfl, g1, g2, g3, g4, g5, _⟩ := h
  exact ⟨A, c, vs, rfl, ⟨by rw [g5.length, hn, Nat.mul_one], g1, g2, g3, g4.imp id fun ⟨b, o, hA, hm⟩ => ⟨b, o, hA, fun j u hu => (hm j u hu).1⟩⟩, g5⟩
theorem code_tok {ak : AV} {key : List UInt8} {own : AOwn} {cs : List AV} {ls : List (List UInt8)} {n : Nat} (hk : IsB ak key) (hps : IsBs cs ls) (hn2 : cs.length = n) (hn : key.length ≤ 1000000) (hm : ls.flatten.length ≤ 1000000000) : ATok Try.prog 16 [ak, .sl own cs n] 32 1 ((macB key ls.flatten).map bvA) 32 := by
  refine ATok.of_seg (macB_length _ _) fun M w vs hr => ?_
  obtain ⟨u, v, rfl, h1, h2⟩ := hr.inv2
  obtain ⟨A, c, rfl, hrd⟩ := hk.rd h1
  obtain ⟨Ap, cp, vs', rfl, g1, g2⟩ := rd_of_reps h2 hn2
  exact code_any A _ c key Ap n cp vs' ls w hrd hn g1 (hps.parts g2) hm
theorem rsum_tok {a : AV} {msg : List UInt8} (h : IsB a msg) (hn : msg.length ≤ 1000000) : ATok Try.prog 18 [a] 32 1 ((sumB msg).map bvA) 32 := by
  refine ATok.of_seg (sumB_length _) fun M w vs hr => ?_
  obtain ⟨v, rfl, h1⟩ := hr.inv1
  obtain ⟨A, c, rfl, hrd⟩ := h.rd h1
  exact rsum_any A _ c msg w hrd hn
theorem extract_tok {ak am : AV} {key msg : List UInt8} (hk : IsB ak key) (h : IsB am msg) (hn : key.length ≤ 1000000) (hm : msg.length ≤ 1000000000) : ATok Try.prog 19 [ak, am] 32 1 ((macB key msg).map bvA) 32 := by
  refine ATok.fg ?_
  obtain ⟨a1, e1, hk1, s1, o1⟩ := hk.fgn
  obtain ⟨a2, e2, hk2, s2, o2⟩ := h.fgn
  simp only [AV.fgL, e1, e2]
  clear hk h e1 e2
  refine ATok.mk (by simp [AV.shutL, s1, s2]) (shutL_bvA _) ?_
  refine ACalls_body Try.func19 rfl rfl ?_
  simp only [Try.ntmps19, List.length_cons, List.length_nil, Nat.reduceAdd, Nat.reduceSub, List.replicate_succ, List.replicate_zero, List.cons_append, List.nil_append]
  repeat' (first
    | with_reducible refine AWP_seq ?_
    | with_reducible refine AWP_region ?_
    | with_reducible refine AOPS_nil ?_
    | with_reducible refine AThen_normal ?_
    | with_reducible refine AThen_ret ?_
    | with_reducible refine AThen_exit ?_
    | with_reducible refine ARound_ret ?_
    | with_reducible refine ARound_exit ?_
    | with_reducible refine AWP_skip ?_
    | with_reducible refine AWP_ret ?_
    | with_reducible refine AWP_exit ?_
    | ((with_reducible apply S_move); (case hx => rfl); (case hs => (simp only [aput, List.set_cons_succ, List.set_cons_zero]; rfl)))
    | ((with_reducible apply S_assign); (case hx => rfl); (case hs => (simp only [aput, List.set_cons_succ, List.set_cons_zero]; rfl)))
    | ((with_reducible apply S_lit); (case hp => rfl); (case ho => (first | rfl | (simp only [List.all_cons, List.all_nil, Bool.and_true, Bool.and_self, bvA_one, sl_one, nils_one, str_one, o2]; done) | (simp [AV.one, o2]; done))); (case hl => rfl); (case hzl => rfl); (case hb => decide); (case hs => (simp only [aput, List.set_cons_succ, List.set_cons_zero]; rfl)))
    | ((with_reducible apply S_call_tok (g := 16)); (case hf => rfl); (case ha => rfl); (case h => exact (code_tok (by first | assumption | exact IsB.nils | exact IsB.mk_ _ _ | exact IsB.mk' _ _ (by first | rfl | assumption | (simp; done) | omega) | exact IsB.one _ _ | exact IsB.app _ _ _ (by first | rfl | (simp; done) | (simp; omega) | omega) | exact IsB.app3 _ _ _ _ (by first | rfl | (simp; done) | (simp; omega) | omega) | exact IsB.app1 _ _ _ (by first | rfl | (simp; done) | (simp; omega) | omega)) (by (repeat ((with_reducible apply IsBs.cons); (case h => exact (by first | assumption | exact IsB.nils | exact IsB.mk_ _ _ | exact IsB.mk' _ _ (by first | rfl | assumption | (simp; done) | omega) | exact IsB.one _ _ | exact IsB.app _ _ _ (by first | rfl | (simp; done) | (simp; omega) | omega) | exact IsB.app3 _ _ _ _ (by first | rfl | (simp; done) | (simp; omega) | omega) | exact IsB.app1 _ _ _ (by first | rfl | (simp; done) | (simp; omega) | omega))))); exact IsBs.nil) rfl (by omega) (by simp; omega))); (case hc => exact (fun vs w => by kernel_rfl)); (case hs => (simp only [aput, List.set_cons_succ, List.set_cons_zero]; rfl)))
    | fail)
  refine ARet_ret rfl (.tmpO rfl .nil) ?_
  exact ⟨0, by simp [aone], rfl⟩
theorem rpad_tok {ak : AV} {key : List UInt8} {x : UInt8} (hk : IsB ak key) (hn : key.length ≤ 1000000) : ATok Try.prog 38 [ak, bvA x] 64 1 ((padK key x).map bvA) 64 := by
  refine ATok.fg ?_
  obtain ⟨a1, e1, hk1, s1, o1⟩ := hk.fgn
  simp only [AV.fgL, e1]
  clear hk e1
  rw [show AV.fg (bvA x) = bvA x by unfold bvA AV.fg; rfl]
  refine ATok.mk (by simp [AV.shutL, s1]; unfold bvA AV.shut; rfl) (shutL_bvA _) ?_
  refine ACalls_body Try.func38 rfl rfl ?_
  simp only [Try.ntmps38, List.length_cons, List.length_nil, Nat.reduceAdd, Nat.reduceSub, List.replicate_succ, List.replicate_zero, List.cons_append, List.nil_append]
  by_cases hlen : 64 < key.length
  · have hl : decide ((key.length : Int) > 64) = true := by simp; omega
    repeat' (first
      | with_reducible refine AWP_seq ?_
      | with_reducible refine AWP_region ?_
      | with_reducible refine AOPS_nil ?_
      | with_reducible refine AThen_normal ?_
      | with_reducible refine AThen_ret ?_
      | with_reducible refine AThen_exit ?_
      | with_reducible refine ABlock_normal ?_
      | with_reducible refine ABlock_ret ?_
      | with_reducible refine ABlock_exit ?_
      | ((with_reducible apply ABlock_other); (case hij => rfl))
      | with_reducible refine ARound_ret ?_
      | with_reducible refine ARound_exit ?_
      | with_reducible refine ANext_normal ?_
      | with_reducible refine ANext_ret ?_
      | with_reducible refine ANext_exit ?_
      | with_reducible refine ARounds_step ?_
      | with_reducible refine ALoopQ_ret ?_
      | with_reducible refine ALoopQ_exit ?_
      | with_reducible refine AWP_block ?_
      | with_reducible refine AWP_skip ?_
      | with_reducible refine AWP_ret ?_
      | with_reducible refine AWP_exit ?_
      | ((with_reducible apply AWP_cond_t); (case hc => rfl); (case hb => (first | with_reducible assumption | with_reducible rfl | (simp only [hl]; done) | (simp; done) | (simp; omega))))
      | ((with_reducible apply AWP_cond_f); (case hc => rfl); (case hb => (first | with_reducible assumption | with_reducible rfl | (simp only [hl]; done) | (simp; done) | (simp; omega))))
      | ((with_reducible apply S_move); (case hx => rfl); (case hs => (simp only [aput, List.set_cons_succ, List.set_cons_zero]; rfl)))
      | ((with_reducible apply S_assign); (case hx => rfl); (case hs => (simp only [aput, List.set_cons_succ, List.set_cons_zero]; rfl)))
      | ((with_reducible apply AOPS_len_sl); (case hx => rfl); (case hs => (simp only [aput, List.set_cons_succ, List.set_cons_zero]; rfl)))
      | ((with_reducible apply AOPS_len_nils); (case hx => rfl); (case hs => (simp only [aput, List.set_cons_succ, List.set_cons_zero]; rfl)))
      | ((with_reducible apply AOPS_len_row); (case hx => rfl); (case hs => (simp only [aput, List.set_cons_succ, List.set_cons_zero]; rfl)))
      | ((with_reducible apply AOPS_len_str); (case hx => rfl); (case hs => (simp only [aput, List.set_cons_succ, List.set_cons_zero]; rfl)))
      | ((with_reducible apply S_len_isB); (case hx => rfl); (case hb => assumption); (case hs => (simp only [aput, List.set_cons_succ, List.set_cons_zero]; rfl)))
      | ((with_reducible apply S_inc8); (case hx => rfl); (case hy => rfl); (case hs => (simp only [aput, List.set_cons_succ, List.set_cons_zero]; rfl)))
      | ((with_reducible apply S_add); (case hx => rfl); (case hy => rfl); (case hb => (first | (constructor <;> omega) | omega | (simp; done) | (simp; omega))); (case hs => (simp only [aput, List.set_cons_succ, List.set_cons_zero]; rfl)))
      | ((with_reducible apply S_xor8); (case hx => rfl); (case hy => rfl); (case hs => (simp only [aput, List.set_cons_succ, List.set_cons_zero]; rfl)))
      | ((with_reducible apply S_bin); (case hx => rfl); (case hy => rfl); (case ho => rfl); (case hs => (simp only [aput, List.set_cons_succ, List.set_cons_zero]; rfl)))
      | ((with_reducible apply AOPS_str); (case hx => rfl); (case hy => rfl); (case ho => rfl); (case hs => (simp only [aput, List.set_cons_succ, List.set_cons_zero]; rfl)))
      | ((with_reducible apply S_load_all); (case hx => rfl); (case ho => rfl); (case hp => rfl); (case hs => (simp only [aput, List.set_cons_succ, List.set_cons_zero]; rfl)))
      | ((with_reducible apply S_load_agg); (case hx => rfl); (case ho => rfl); (case hp => rfl); (case hs => (simp only [aput, List.set_cons_succ, List.set_cons_zero]; rfl)))
      | ((with_reducible apply S_load_epr_sub); (case hx => rfl); (case hp => rfl); (case hs => (simp only [aput, List.set_cons_succ, List.set_cons_zero]; rfl)))
      | ((with_reducible apply S_load); (case hx => rfl); (case ho => rfl); (case hp => rfl); (case hs => (simp only [aput, List.set_cons_succ, List.set_cons_zero]; rfl)))
      | ((with_reducible apply S_load_epr); (case hx => rfl); (case hp => rfl); (case hs => (simp only [aput, List.set_cons_succ, List.set_cons_zero]; rfl)))
      | ((with_reducible apply S_load_byte); (case hx => rfl); (case hlt => (first | (constructor <;> omega) | omega | (simp; done) | (simp; omega))); (case hs => (simp only [aput, List.set_cons_succ, List.set_cons_zero]; rfl)))
      | ((with_reducible apply S_lit); (case hp => rfl); (case ho => (first | rfl | (simp only [List.all_cons, List.all_nil, Bool.and_true, Bool.and_self, bvA_one, sl_one, nils_one, str_one, hl]; done) | (simp [AV.one, hl]; done))); (case hl => rfl); (case hzl => rfl); (case hb => decide); (case hs => (simp only [aput, List.set_cons_succ, List.set_cons_zero]; rfl)))
      | ((with_reducible apply T_append_full); (case hx => rfl); (case hy => rfl); (case hS => (first | exact SrcOk_bytes inferInstance (by first | rfl | assumption | (simp; done) | omega) | exact SrcOk_sl inferInstance (by simp) (by first | rfl | (simp only [List.all_cons, List.all_nil, bvA_one, Bool.and_self]; done) | simp [AV.one, bvA_ones]) | exact SrcOk_nils inferInstance | exact SrcOk_str inferInstance | exact SrcOk_isB inferInstance (by assumption))); (case hl => (first | rfl | (simp; done))); (case hb => (first | (constructor <;> omega) | omega | (simp; done) | (simp; omega))); (case hs => (simp only [aput, List.set_cons_succ, List.set_cons_zero]; rfl)))
      | ((with_reducible apply T_append_nils); (case hx => rfl); (case hy => rfl); (case hS => (first | exact SrcOk_bytes inferInstance (by first | rfl | assumption | (simp; done) | omega) | exact SrcOk_sl inferInstance (by simp) (by first | rfl | (simp only [List.all_cons, List.all_nil, bvA_one, Bool.and_self]; done) | simp [AV.one, bvA_ones]) | exact SrcOk_nils inferInstance | exact SrcOk_str inferInstance | exact SrcOk_isB inferInstance (by assumption))); (case hb => (first | (constructor <;> omega) | omega | (simp; done) | (simp; omega))); (case hs => (simp only [aput, List.set_cons_succ, List.set_cons_zero]; rfl)))
      | ((with_reducible apply U_append_tok); (case hx => rfl); (case hy => rfl); (case htk => (first | rfl | (simp [alook]; done))); (case hS => (first | exact SrcOk_bytes inferInstance (by first | rfl | assumption | (simp; done) | omega) | exact SrcOk_sl inferInstance (by simp) (by first | rfl | (simp only [List.all_cons, List.all_nil, bvA_one, Bool.and_self]; done) | simp [AV.one, bvA_ones]) | exact SrcOk_nils inferInstance | exact SrcOk_str inferInstance | exact SrcOk_isB inferInstance (by assumption))); (case hb => (first | (constructor <;> omega) | omega | (simp; done) | (simp; omega))); (case ht => (first | rfl | (simp only [asetF, if_true]; rfl))); (case hs => (simp only [aput, List.set_cons_succ, List.set_cons_zero]; rfl)))
      | ((with_reducible apply S_indexAddr); (case hx => rfl); (case hy => rfl); (case hj => rfl); (case hi => (first | (constructor <;> omega) | omega | (simp; done) | (simp; omega))); (case ho => (first | (simp; rfl) | rfl)); (case hs => (simp only [aput, List.set_cons_succ, List.set_cons_zero]; rfl)))
      | ((with_reducible apply S_indexAddr_isB); (case hx => rfl); (case hb => assumption); (case hy => rfl); (case hj => rfl); (case hi => (first | (constructor <;> omega) | omega | (simp; done) | (simp; omega))); (case hs => (simp only [aput, List.set_cons_succ, List.set_cons_zero]; rfl)))
      | ((with_reducible apply AOPS_indexAddr); (case hx => rfl); (case hy => rfl); (case hi => (first | (constructor <;> omega) | omega | (simp; done) | (simp; omega))); (case hs => (simp only [aput, List.set_cons_succ, List.set_cons_zero]; rfl)))
      | ((with_reducible apply AOPS_indexAddr_row); (case hx => rfl); (case hy => rfl); (case hi => (first | (constructor <;> omega) | omega | (simp; done) | (simp; omega))); (case hs => (simp only [aput, List.set_cons_succ, List.set_cons_zero]; rfl)))
      | ((with_reducible apply AOPS_indexAddr_arr); (case hx => rfl); (case hy => rfl); (case hi => (first | (constructor <;> omega) | omega | (simp; done) | (simp; omega))); (case hs => (simp only [aput, List.set_cons_succ, List.set_cons_zero]; rfl)))
      | ((with_reducible apply S_call_tok (g := 18)); (case hf => rfl); (case ha => rfl); (case h => exact (rsum_tok hk1 (by omega))); (case hc => exact (fun vs w => by kernel_rfl)); (case hs => (simp only [aput, List.set_cons_succ, List.set_cons_zero]; rfl)))
      | fail)
    generalize ha : AV.sl (.tok 0 32 1) (List.map bvA (sumB key)) 32 = a
    have hK : IsB a (keyK key) := by rw [← ha, keyK_of_long hlen]; exact IsB.mk' _ _ (sumB_length _)
    refine AWP_adopt 5 1 rfl (by simp only [setF]; rfl) ?_
    repeat (first
      | with_reducible refine AWP_seq ?_
      | with_reducible refine AWP_region ?_
      | with_reducible refine AOPS_nil ?_
      | with_reducible refine AThen_normal ?_
      | with_reducible refine AThen_ret ?_
      | with_reducible refine AThen_exit ?_
      | with_reducible refine ABlock_normal ?_
      | with_reducible refine ABlock_ret ?_
      | with_reducible refine ABlock_exit ?_
      | ((with_reducible apply ABlock_other); (case hij => rfl))
      | with_reducible refine ARound_ret ?_
      | with_reducible refine ARound_exit ?_
      | with_reducible refine ANext_normal ?_
      | with_reducible refine ANext_ret ?_
      | with_reducible refine ANext_exit ?_
      | with_reducible refine ARounds_step ?_
      | with_reducible refine ALoopQ_ret ?_
      | with_reducible refine ALoopQ_exit ?_
      | with_reducible refine AWP_block ?_
      | with_reducible refine AWP_skip ?_
      | with_reducible refine AWP_ret ?_
      | with_reducible refine AWP_exit ?_
      | ((with_reducible apply AWP_cond_t); (case hc => rfl); (case hb => (first | with_reducible assumption | with_reducible rfl | (simp; done) | (simp; omega))))
      | ((with_reducible apply AWP_cond_f); (case hc => rfl); (case hb => (first | with_reducible assumption | with_reducible rfl | (simp; done) | (simp; omega))))
      | ((with_reducible apply S_move); (case hx => rfl); (case hs => (simp only [aput, List.set_cons_succ, List.set_cons_zero]; rfl)))
      | ((with_reducible apply S_assign); (case hx => rfl); (case hs => (simp only [aput, List.set_cons_succ, List.set_cons_zero]; rfl)))
      | ((with_reducible apply AOPS_len_sl); (case hx => rfl); (case hs => (simp only [aput, List.set_cons_succ, List.set_cons_zero]; rfl)))
      | ((with_reducible apply AOPS_len_nils); (case hx => rfl); (case hs => (simp only [aput, List.set_cons_succ, List.set_cons_zero]; rfl)))
      | ((with_reducible apply AOPS_len_row); (case hx => rfl); (case hs => (simp only [aput, List.set_cons_succ, List.set_cons_zero]; rfl)))
      | ((with_reducible apply AOPS_len_str); (case hx => rfl); (case hs => (simp only [aput, List.set_cons_succ, List.set_cons_zero]; rfl)))
      | ((with_reducible apply S_len_isB); (case hx => rfl); (case hb => assumption); (case hs => (simp only [aput, List.set_cons_succ, List.set_cons_zero]; rfl)))
      | ((with_reducible apply S_inc8); (case hx => rfl); (case hy => rfl); (case hs => (simp only [aput, List.set_cons_succ, List.set_cons_zero]; rfl)))
      | ((with_reducible apply S_add); (case hx => rfl); (case hy => rfl); (case hb => (first | (constructor <;> omega) | omega | (simp; done) | (simp; omega))); (case hs => (simp only [aput, List.set_cons_succ, List.set_cons_zero]; rfl)))
      | ((with_reducible apply S_xor8); (case hx => rfl); (case hy => rfl); (case hs => (simp only [aput, List.set_cons_succ, List.set_cons_zero]; rfl)))
      | ((with_reducible apply S_bin); (case hx => rfl); (case hy => rfl); (case ho => rfl); (case hs => (simp only [aput, List.set_cons_succ, List.set_cons_zero]; rfl)))
      | ((with_reducible apply AOPS_str); (case hx => rfl); (case hy => rfl); (case ho => rfl); (case hs => (simp only [aput, List.set_cons_succ, List.set_cons_zero]; rfl)))
      | ((with_reducible apply S_load_all); (case hx => rfl); (case ho => rfl); (case hp => rfl); (case hs => (simp only [aput, List.set_cons_succ, List.set_cons_zero]; rfl)))
      | ((with_reducible apply S_load_agg); (case hx => rfl); (case ho => rfl); (case hp => rfl); (case hs => (simp only [aput, List.set_cons_succ, List.set_cons_zero]; rfl)))
      | ((with_reducible apply S_load_epr_sub); (case hx => rfl); (case hp => rfl); (case hs => (simp only [aput, List.set_cons_succ, List.set_cons_zero]; rfl)))
      | ((with_reducible apply S_load); (case hx => rfl); (case ho => rfl); (case hp => rfl); (case hs => (simp only [aput, List.set_cons_succ, List.set_cons_zero]; rfl)))
      | ((with_reducible apply S_load_epr); (case hx => rfl); (case hp => rfl); (case hs => (simp only [aput, List.set_cons_succ, List.set_cons_zero]; rfl)))
      | ((with_reducible apply S_load_byte); (case hx => rfl); (case hlt => (first | (constructor <;> omega) | omega | (simp; done) | (simp; omega))); (case hs => (simp only [aput, List.set_cons_succ, List.set_cons_zero]; rfl)))
      | ((with_reducible apply S_lit); (case hp => rfl); (case ho => (first | rfl | (simp only [List.all_cons, List.all_nil, Bool.and_true, Bool.and_self, bvA_one, sl_one, nils_one, str_one]; done) | (simp [AV.one]; done))); (case hl => rfl); (case hzl => rfl); (case hb => decide); (case hs => (simp only [aput, List.set_cons_succ, List.set_cons_zero]; rfl)))
      | ((with_reducible apply T_append_full); (case hx => rfl); (case hy => rfl); (case hS => (first | exact SrcOk_bytes inferInstance (by first | rfl | assumption | (simp; done) | omega) | exact SrcOk_sl inferInstance (by simp) (by first | rfl | (simp only [List.all_cons, List.all_nil, bvA_one, Bool.and_self]; done) | simp [AV.one, bvA_ones]) | exact SrcOk_nils inferInstance | exact SrcOk_str inferInstance | exact SrcOk_isB inferInstance (by assumption))); (case hl => (first | rfl | (simp; done))); (case hb => (first | (constructor <;> omega) | omega | (simp; done) | (simp; omega))); (case hs => (simp only [aput, List.set_cons_succ, List.set_cons_zero]; rfl)))
      | ((with_reducible apply T_append_nils); (case hx => rfl); (case hy => rfl); (case hS => (first | exact SrcOk_bytes inferInstance (by first | rfl | assumption | (simp; done) | omega) | exact SrcOk_sl inferInstance (by simp) (by first | rfl | (simp only [List.all_cons, List.all_nil, bvA_one, Bool.and_self]; done) | simp [AV.one, bvA_ones]) | exact SrcOk_nils inferInstance | exact SrcOk_str inferInstance | exact SrcOk_isB inferInstance (by assumption))); (case hb => (first | (constructor <;> omega) | omega | (simp; done) | (simp; omega))); (case hs => (simp only [aput, List.set_cons_succ, List.set_cons_zero]; rfl)))
      | ((with_reducible apply U_append_tok); (case hx => rfl); (case hy => rfl); (case htk => (first | rfl | (simp [alook]; done))); (case hS => (first | exact SrcOk_bytes inferInstance (by first | rfl | assumption | (simp; done) | omega) | exact SrcOk_sl inferInstance (by simp) (by first | rfl | (simp only [List.all_cons, List.all_nil, bvA_one, Bool.and_self]; done) | simp [AV.one, bvA_ones]) | exact SrcOk_nils inferInstance | exact SrcOk_str inferInstance | exact SrcOk_isB inferInstance (by assumption))); (case hb => (first | (constructor <;> omega) | omega | (simp; done) | (simp; omega))); (case ht => (first | rfl | (simp only [asetF, if_true]; rfl))); (case hs => (simp only [aput, List.set_cons_succ, List.set_cons_zero]; rfl)))
      | ((with_reducible apply S_indexAddr); (case hx => rfl); (case hy => rfl); (case hj => rfl); (case hi => (first | (constructor <;> omega) | omega | (simp; done) | (simp; omega))); (case ho => (first | (simp; rfl) | rfl)); (case hs => (simp only [aput, List.set_cons_succ, List.set_cons_zero]; rfl)))
      | ((with_reducible apply S_indexAddr_isB); (case hx => rfl); (case hb => assumption); (case hy => rfl); (case hj => rfl); (case hi => (first | (constructor <;> omega) | omega | (simp; done) | (simp; omega))); (case hs => (simp only [aput, List.set_cons_succ, List.set_cons_zero]; rfl)))
      | ((with_reducible apply AOPS_indexAddr); (case hx => rfl); (case hy => rfl); (case hi => (first | (constructor <;> omega) | omega | (simp; done) | (simp; omega))); (case hs => (simp only [aput, List.set_cons_succ, List.set_cons_zero]; rfl)))
      | ((with_reducible apply AOPS_indexAddr_row); (case hx => rfl); (case hy => rfl); (case hi => (first | (constructor <;> omega) | omega | (simp; done) | (simp; omega))); (case hs => (simp only [aput, List.set_cons_succ, List.set_cons_zero]; rfl)))
      | ((with_reducible apply AOPS_indexAddr_arr); (case hx => rfl); (case hy => rfl); (case hi => (first | (constructor <;> omega) | omega | (simp; done) | (simp; omega))); (case hs => (simp only [aput, List.set_cons_succ, List.set_cons_zero]; rfl)))
      | fail)
    refine AWP_loopS [0, 1, 4, 5, 6, 7, 13, 14, 15, 16, 17, 18, 19, 20, 21, 22, 23, 24, 25, 26, 27, 28, 29, 30, 31] (N := Nat × List AV × List AV) (fun ⟨k, cs, js⟩ => [a, bvA x, .nils, .sl (.tok 1 k 1) cs k, .int .i64 k, js.getD 0 .und, js.getD 1 .und, js.getD 2 .und, js.getD 3 .und, js.getD 4 .und, js.getD 5 .und, js.getD 6 .und, js.getD 7 .und, js.getD 8 .und, js.getD 9 .und, js.getD 10 .und, js.getD 11 .und, js.getD 12 .und, js.getD 13 .und, js.getD 14 .und, js.getD 15 .und, js.getD 16 .und, js.getD 17 .und, js.getD 18 .und, js.getD 19 .und]) (fun ⟨k, cs, js⟩ => ⟨[], (1, k) :: [(0, 32)], 2⟩) (fun ⟨k, cs, js⟩ => k ≤ 64 ∧ cs = ((padK key x).take k).map bvA) (fun ⟨k, cs, js⟩ => 64 - k) ⟨0, [], [_, _, _, _, _, _, _, _, _, _, _, _, _, _, _, _, _, _, _, _]⟩ rfl rfl ?hi0 ?_
    rotate_left
    rintro ⟨k, cs, js⟩ sl_ hs hi
    simp only [setsF, setF, Option.some.injEq] at hs
    subst hs
    case hi0 => exact ⟨by omega, by simp⟩
    obtain ⟨hk64, hcs⟩ := hi
    by_cases hlt : k < 64
    · have hd : decide ((k : Int) < 64) = true := by simp; omega
      by_cases hkk : k < (keyK key).length
      · have hd2 : decide ((k : Int) < ((keyK key).length : Int)) = true := by simp; omega
        repeat (first
          | with_reducible refine AWP_seq ?_
          | with_reducible refine AWP_region ?_
          | with_reducible refine AOPS_nil ?_
          | with_reducible refine AThen_normal ?_
          | with_reducible refine AThen_ret ?_
          | with_reducible refine AThen_exit ?_
          | with_reducible refine ABlock_normal ?_
          | with_reducible refine ABlock_ret ?_
          | with_reducible refine ABlock_exit ?_
          | ((with_reducible apply ABlock_other); (case hij => rfl))
          | with_reducible refine ARound_ret ?_
          | with_reducible refine ARound_exit ?_
          | with_reducible refine ANext_normal ?_
          | with_reducible refine ANext_ret ?_
          | with_reducible refine ANext_exit ?_
          | with_reducible refine ARounds_step ?_
          | with_reducible refine ALoopQ_ret ?_
          | with_reducible refine ALoopQ_exit ?_
          | with_reducible refine AWP_block ?_
          | with_reducible refine AWP_skip ?_
          | with_reducible refine AWP_ret ?_
          | with_reducible refine AWP_exit ?_
          | ((with_reducible apply AWP_cond_t); (case hc => rfl); (case hb => (first | with_reducible assumption | with_reducible rfl | (simp only [hd, hd2]; done) | (simp; done) | (simp; omega))))
          | ((with_reducible apply AWP_cond_f); (case hc => rfl); (case hb => (first | with_reducible assumption | with_reducible rfl | (simp only [hd, hd2]; done) | (simp; done) | (simp; omega))))
          | ((with_reducible apply S_move); (case hx => rfl); (case hs => (simp only [aput, List.set_cons_succ, List.set_cons_zero]; rfl)))
          | ((with_reducible apply S_assign); (case hx => rfl); (case hs => (simp only [aput, List.set_cons_succ, List.set_cons_zero]; rfl)))
          | ((with_reducible apply AOPS_len_sl); (case hx => rfl); (case hs => (simp only [aput, List.set_cons_succ, List.set_cons_zero]; rfl)))
          | ((with_reducible apply AOPS_len_nils); (case hx => rfl); (case hs => (simp only [aput, List.set_cons_succ, List.set_cons_zero]; rfl)))
          | ((with_reducible apply AOPS_len_row); (case hx => rfl); (case hs => (simp only [aput, List.set_cons_succ, List.set_cons_zero]; rfl)))
          | ((with_reducible apply AOPS_len_str); (case hx => rfl); (case hs => (simp only [aput, List.set_cons_succ, List.set_cons_zero]; rfl)))
          | ((with_reducible apply S_len_isB); (case hx => rfl); (case hb => assumption); (case hs => (simp only [aput, List.set_cons_succ, List.set_cons_zero]; rfl)))
          | ((with_reducible apply S_inc8); (case hx => rfl); (case hy => rfl); (case hs => (simp only [aput, List.set_cons_succ, List.set_cons_zero]; rfl)))
          | ((with_reducible apply S_add); (case hx => rfl); (case hy => rfl); (case hb => (first | (constructor <;> omega) | omega | (simp; done) | (simp; omega))); (case hs => (simp only [aput, List.set_cons_succ, List.set_cons_zero]; rfl)))
          | ((with_reducible apply S_xor8); (case hx => rfl); (case hy => rfl); (case hs => (simp only [aput, List.set_cons_succ, List.set_cons_zero]; rfl)))
          | ((with_reducible apply S_bin); (case hx => rfl); (case hy => rfl); (case ho => rfl); (case hs => (simp only [aput, List.set_cons_succ, List.set_cons_zero]; rfl)))
          | ((with_reducible apply AOPS_str); (case hx => rfl); (case hy => rfl); (case ho => rfl); (case hs => (simp only [aput, List.set_cons_succ, List.set_cons_zero]; rfl)))
          | ((with_reducible apply S_load_all); (case hx => rfl); (case ho => rfl); (case hp => rfl); (case hs => (simp only [aput, List.set_cons_succ, List.set_cons_zero]; rfl)))
          | ((with_reducible apply S_load_agg); (case hx => rfl); (case ho => rfl); (case hp => rfl); (case hs => (simp only [aput, List.set_cons_succ, List.set_cons_zero]; rfl)))
          | ((with_reducible apply S_load_epr_sub); (case hx => rfl); (case hp => rfl); (case hs => (simp only [aput, List.set_cons_succ, List.set_cons_zero]; rfl)))
          | ((with_reducible apply S_load); (case hx => rfl); (case ho => rfl); (case hp => rfl); (case hs => (simp only [aput, List.set_cons_succ, List.set_cons_zero]; rfl)))
          | ((with_reducible apply S_load_epr); (case hx => rfl); (case hp => rfl); (case hs => (simp only [aput, List.set_cons_succ, List.set_cons_zero]; rfl)))
          | ((with_reducible apply S_load_byte); (case hx => rfl); (case hlt => (first | (constructor <;> omega) | omega | (simp; done) | (simp; omega))); (case hs => (simp only [aput, List.set_cons_succ, List.set_cons_zero]; rfl)))
          | ((with_reducible apply S_lit); (case hp => rfl); (case ho => (first | rfl | (simp only [List.all_cons, List.all_nil, Bool.and_true, Bool.and_self, bvA_one, sl_one, nils_one, str_one, hd, hd2]; done) | (simp [AV.one, hd, hd2]; done))); (case hl => rfl); (case hzl => rfl); (case hb => decide); (case hs => (simp only [aput, List.set_cons_succ, List.set_cons_zero]; rfl)))
          | ((with_reducible apply T_append_full); (case hx => rfl); (case hy => rfl); (case hS => (first | exact SrcOk_bytes inferInstance (by first | rfl | assumption | (simp; done) | omega) | exact SrcOk_sl inferInstance (by simp) (by first | rfl | (simp only [List.all_cons, List.all_nil, bvA_one, Bool.and_self]; done) | simp [AV.one, bvA_ones]) | exact SrcOk_nils inferInstance | exact SrcOk_str inferInstance | exact SrcOk_isB inferInstance (by assumption))); (case hl => (first | rfl | (simp; done))); (case hb => (first | (constructor <;> omega) | omega | (simp; done) | (simp; omega))); (case hs => (simp only [aput, List.set_cons_succ, List.set_cons_zero]; rfl)))
          | ((with_reducible apply T_append_nils); (case hx => rfl); (case hy => rfl); (case hS => (first | exact SrcOk_bytes inferInstance (by first | rfl | assumption | (simp; done) | omega) | exact SrcOk_sl inferInstance (by simp) (by first | rfl | (simp only [List.all_cons, List.all_nil, bvA_one, Bool.and_self]; done) | simp [AV.one, bvA_ones]) | exact SrcOk_nils inferInstance | exact SrcOk_str inferInstance | exact SrcOk_isB inferInstance (by assumption))); (case hb => (first | (constructor <;> omega) | omega | (simp; done) | (simp; omega))); (case hs => (simp only [aput, List.set_cons_succ, List.set_cons_zero]; rfl)))
          | ((with_reducible apply U_append_tok); (case hx => rfl); (case hy => rfl); (case htk => (first | rfl | (simp [alook]; done))); (case hS => (first | exact SrcOk_bytes inferInstance (by first | rfl | assumption | (simp; done) | omega) | exact SrcOk_sl inferInstance (by simp) (by first | rfl | (simp only [List.all_cons, List.all_nil, bvA_one, Bool.and_self]; done) | simp [AV.one, bvA_ones]) | exact SrcOk_nils inferInstance | exact SrcOk_str inferInstance | exact SrcOk_isB inferInstance (by assumption))); (case hb => (first | (constructor <;> omega) | omega | (simp; done) | (simp; omega))); (case ht => (first | rfl | (simp only [asetF, if_true]; rfl))); (case hs => (simp only [aput, List.set_cons_succ, List.set_cons_zero]; rfl)))
          | ((with_reducible apply S_indexAddr); (case hx => rfl); (case hy => rfl); (case hj => rfl); (case hi => (first | (constructor <;> omega) | omega | (simp; done) | (simp; omega))); (case ho => (first | (simp; rfl) | rfl)); (case hs => (simp only [aput, List.set_cons_succ, List.set_cons_zero]; rfl)))
          | ((with_reducible apply S_indexAddr_isB); (case hx => rfl); (case hb => assumption); (case hy => rfl); (case hj => rfl); (case hi => (first | (constructor <;> omega) | omega | (simp; done) | (simp; omega))); (case hs => (simp only [aput, List.set_cons_succ, List.set_cons_zero]; rfl)))
          | ((with_reducible apply AOPS_indexAddr); (case hx => rfl); (case hy => rfl); (case hi => (first | (constructor <;> omega) | omega | (simp; done) | (simp; omega))); (case hs => (simp only [aput, List.set_cons_succ, List.set_cons_zero]; rfl)))
          | ((with_reducible apply AOPS_indexAddr_row); (case hx => rfl); (case hy => rfl); (case hi => (first | (constructor <;> omega) | omega | (simp; done) | (simp; omega))); (case hs => (simp only [aput, List.set_cons_succ, List.set_cons_zero]; rfl)))
          | ((with_reducible apply AOPS_indexAddr_arr); (case hx => rfl); (case hy => rfl); (case hi => (first | (constructor <;> omega) | omega | (simp; done) | (simp; omega))); (case hs => (simp only [aput, List.set_cons_succ, List.set_cons_zero]; rfl)))
          | fail)
        refine ALoopQ_normal ⟨k + 1, cs ++ [bvA (x ^^^ (keyK key).getD k 0)], [_, _, _, _, _, _, _, _, _, _, _, _, _, _, _, _, _, _, _, _]⟩ rfl rfl ?hi1 ?hm1
        case hi1 =>
          refine ⟨by omega, ?_⟩
          rw [hcs, padK_take _ _ _ hlt, List.map_append, UInt8.xor_comm]; rfl
        case hm1 => simp only; omega
      · have hd2 : decide ((k : Int) < ((keyK key).length : Int)) = false := by simp; omega
        repeat (first
          | with_reducible refine AWP_seq ?_
          | with_reducible refine AWP_region ?_
          | with_reducible refine AOPS_nil ?_
          | with_reducible refine AThen_normal ?_
          | with_reducible refine AThen_ret ?_
          | with_reducible refine AThen_exit ?_
          | with_reducible refine ABlock_normal ?_
          | with_reducible refine ABlock_ret ?_
          | with_reducible refine ABlock_exit ?_
          | ((with_reducible apply ABlock_other); (case hij => rfl))
          | with_reducible refine ARound_ret ?_
          | with_reducible refine ARound_exit ?_
          | with_reducible refine ANext_normal ?_
          | with_reducible refine ANext_ret ?_
          | with_reducible refine ANext_exit ?_
          | with_reducible refine ARounds_step ?_
          | with_reducible refine ALoopQ_ret ?_
          | with_reducible refine ALoopQ_exit ?_
          | with_reducible refine AWP_block ?_
          | with_reducible refine AWP_skip ?_
          | with_reducible refine AWP_ret ?_
          | with_reducible refine AWP_exit ?_
          | ((with_reducible apply AWP_cond_t); (case hc => rfl); (case hb => (first | with_reducible assumption | with_reducible rfl | (simp only [hd, hd2]; done) | (simp; done) | (simp; omega))))
          | ((with_reducible apply AWP_cond_f); (case hc => rfl); (case hb => (first | with_reducible assumption | with_reducible rfl | (simp only [hd, hd2]; done) | (simp; done) | (simp; omega))))
          | ((with_reducible apply S_move); (case hx => rfl); (case hs => (simp only [aput, List.set_cons_succ, List.set_cons_zero]; rfl)))
          | ((with_reducible apply S_assign); (case hx => rfl); (case hs => (simp only [aput, List.set_cons_succ, List.set_cons_zero]; rfl)))
          | ((with_reducible apply AOPS_len_sl); (case hx => rfl); (case hs => (simp only [aput, List.set_cons_succ, List.set_cons_zero]; rfl)))
          | ((with_reducible apply AOPS_len_nils); (case hx => rfl); (case hs => (simp only [aput, List.set_cons_succ, List.set_cons_zero]; rfl)))
          | ((with_reducible apply AOPS_len_row); (case hx => rfl); (case hs => (simp only [aput, List.set_cons_succ, List.set_cons_zero]; rfl)))
          | ((with_reducible apply AOPS_len_str); (case hx => rfl); (case hs => (simp only [aput, List.set_cons_succ, List.set_cons_zero]; rfl)))
          | ((with_reducible apply S_len_isB); (case hx => rfl); (case hb => assumption); (case hs => (simp only [aput, List.set_cons_succ, List.set_cons_zero]; rfl)))
          | ((with_reducible apply S_inc8); (case hx => rfl); (case hy => rfl); (case hs => (simp only [aput, List.set_cons_succ, List.set_cons_zero]; rfl)))
          | ((with_reducible apply S_add); (case hx => rfl); (case hy => rfl); (case hb => (first | (constructor <;> omega) | omega | (simp; done) | (simp; omega))); (case hs => (simp only [aput, List.set_cons_succ, List.set_cons_zero]; rfl)))
          | ((with_reducible apply S_xor8); (case hx => rfl); (case hy => rfl); (case hs => (simp only [aput, List.set_cons_succ, List.set_cons_zero]; rfl)))
          | ((with_reducible apply S_bin); (case hx => rfl); (case hy => rfl); (case ho => rfl); (case hs => (simp only [aput, List.set_cons_succ, List.set_cons_zero]; rfl)))
          | ((with_reducible apply AOPS_str); (case hx => rfl); (case hy => rfl); (case ho => rfl); (case hs => (simp only [aput, List.set_cons_succ, List.set_cons_zero]; rfl)))
          | ((with_reducible apply S_load_all); (case hx => rfl); (case ho => rfl); (case hp => rfl); (case hs => (simp only [aput, List.set_cons_succ, List.set_cons_zero]; rfl)))
          | ((with_reducible apply S_load_agg); (case hx => rfl); (case ho => rfl); (case hp => rfl); (case hs => (simp only [aput, List.set_cons_succ, List.set_cons_zero]; rfl)))
          | ((with_reducible apply S_load_epr_sub); (case hx => rfl); (case hp => rfl); (case hs => (simp only [aput, List.set_cons_succ, List.set_cons_zero]; rfl)))
          | ((with_reducible apply S_load); (case hx => rfl); (case ho => rfl); (case hp => rfl); (case hs => (simp only [aput, List.set_cons_succ, List.set_cons_zero]; rfl)))
          | ((with_reducible apply S_load_epr); (case hx => rfl); (case hp => rfl); (case hs => (simp only [aput, List.set_cons_succ, List.set_cons_zero]; rfl)))
          | ((with_reducible apply S_load_byte); (case hx => rfl); (case hlt => (first | (constructor <;> omega) | omega | (simp; done) | (simp; omega))); (case hs => (simp only [aput, List.set_cons_succ, List.set_cons_zero]; rfl)))
          | ((with_reducible apply S_lit); (case hp => rfl); (case ho => (first | rfl | (simp only [List.all_cons, List.all_nil, Bool.and_true, Bool.and_self, bvA_one, sl_one, nils_one, str_one, hd, hd2]; done) | (simp [AV.one, hd, hd2]; done))); (case hl => rfl); (case hzl => rfl); (case hb => decide); (case hs => (simp only [aput, List.set_cons_succ, List.set_cons_zero]; rfl)))
          | ((with_reducible apply T_append_full); (case hx => rfl); (case hy => rfl); (case hS => (first | exact SrcOk_bytes inferInstance (by first | rfl | assumption | (simp; done) | omega) | exact SrcOk_sl inferInstance (by simp) (by first | rfl | (simp only [List.all_cons, List.all_nil, bvA_one, Bool.and_self]; done) | simp [AV.one, bvA_ones]) | exact SrcOk_nils inferInstance | exact SrcOk_str inferInstance | exact SrcOk_isB inferInstance (by assumption))); (case hl => (first | rfl | (simp; done))); (case hb => (first | (constructor <;> omega) | omega | (simp; done) | (simp; omega))); (case hs => (simp only [aput, List.set_cons_succ, List.set_cons_zero]; rfl)))
          | ((with_reducible apply T_append_nils); (case hx => rfl); (case hy => rfl); (case hS => (first | exact SrcOk_bytes inferInstance (by first | rfl | assumption | (simp; done) | omega) | exact SrcOk_sl inferInstance (by simp) (by first | rfl | (simp only [List.all_cons, List.all_nil, bvA_one, Bool.and_self]; done) | simp [AV.one, bvA_ones]) | exact SrcOk_nils inferInstance | exact SrcOk_str inferInstance | exact SrcOk_isB inferInstance (by assumption))); (case hb => (first | (constructor <;> omega) | omega | (simp; done) | (simp; omega))); (case hs => (simp only [aput, List.set_cons_succ, List.set_cons_zero]; rfl)))
          | ((with_reducible apply U_append_tok); (case hx => rfl); (case hy => rfl); (case htk => (first | rfl | (simp [alook]; done))); (case hS => (first | exact SrcOk_bytes inferInstance (by first | rfl | assumption | (simp; done) | omega) | exact SrcOk_sl inferInstance (by simp) (by first | rfl | (simp only [List.all_cons, List.all_nil, bvA_one, Bool.and_self]; done) | simp [AV.one, bvA_ones]) | exact SrcOk_nils inferInstance | exact SrcOk_str inferInstance | exact SrcOk_isB inferInstance (by assumption))); (case hb => (first | (constructor <;> omega) | omega | (simp; done) | (simp; omega))); (case ht => (first | rfl | (simp only [asetF, if_true]; rfl))); (case hs => (simp only [aput, List.set_cons_succ, List.set_cons_zero]; rfl)))
          | ((with_reducible apply S_indexAddr); (case hx => rfl); (case hy => rfl); (case hj => rfl); (case hi => (first | (constructor <;> omega) | omega | (simp; done) | (simp; omega))); (case ho => (first | (simp; rfl) | rfl)); (case hs => (simp only [aput, List.set_cons_succ, List.set_cons_zero]; rfl)))
          | ((with_reducible apply S_indexAddr_isB); (case hx => rfl); (case hb => assumption); (case hy => rfl); (case hj => rfl); (case hi => (first | (constructor <;> omega) | omega | (simp; done) | (simp; omega))); (case hs => (simp only [aput, List.set_cons_succ, List.set_cons_zero]; rfl)))
          | ((with_reducible apply AOPS_indexAddr); (case hx => rfl); (case hy => rfl); (case hi => (first | (constructor <;> omega) | omega | (simp; done) | (simp; omega))); (case hs => (simp only [aput, List.set_cons_succ, List.set_cons_zero]; rfl)))
          | ((with_reducible apply AOPS_indexAddr_row); (case hx => rfl); (case hy => rfl); (case hi => (first | (constructor <;> omega) | omega | (simp; done) | (simp; omega))); (case hs => (simp only [aput, List.set_cons_succ, List.set_cons_zero]; rfl)))
          | ((with_reducible apply AOPS_indexAddr_arr); (case hx => rfl); (case hy => rfl); (case hi => (first | (constructor <;> omega) | omega | (simp; done) | (simp; omega))); (case hs => (simp only [aput, List.set_cons_succ, List.set_cons_zero]; rfl)))
          | fail)
        refine ALoopQ_normal ⟨k + 1, cs ++ [bvA x], [_, _, _, _, _, _, _, _, _, _, _, _, _, _, _, _, _, _, _, _]⟩ rfl rfl ?hi1 ?hm1
        case hi1 =>
          refine ⟨by omega, ?_⟩
          rw [hcs, padK_take _ _ _ hlt, List.map_append, show (keyK key).getD k 0 = 0 by rw [List.getD_eq_getElem?_getD, List.getElem?_eq_none (by omega)]; rfl, UInt8.zero_xor]; rfl
        case hm1 => simp only; omega
    · have hd : decide ((k : Int) < 64) = false := by simp; omega
      obtain rfl : k = 64 := by omega
      repeat (first
        | with_reducible refine AWP_seq ?_
        | with_reducible refine AWP_region ?_
        | with_reducible refine AOPS_nil ?_
        | with_reducible refine AThen_normal ?_
        | with_reducible refine AThen_ret ?_
        | with_reducible refine AThen_exit ?_
        | with_reducible refine ABlock_normal ?_
        | with_reducible refine ABlock_ret ?_
        | with_reducible refine ABlock_exit ?_
        | ((with_reducible apply ABlock_other); (case hij => rfl))
        | with_reducible refine ARound_ret ?_
        | with_reducible refine ARound_exit ?_
        | with_reducible refine ANext_normal ?_
        | with_reducible refine ANext_ret ?_
        | with_reducible refine ANext_exit ?_
        | with_reducible refine ARounds_step ?_
        | with_reducible refine ALoopQ_ret ?_
        | with_reducible refine ALoopQ_exit ?_
        | with_reducible refine AWP_block ?_
        | with_reducible refine AWP_skip ?_
        | with_reducible refine AWP_ret ?_
        | with_reducible refine AWP_exit ?_
        | ((with_reducible apply AWP_cond_t); (case hc => rfl); (case hb => (first | with_reducible assumption | with_reducible rfl | (simp only [hd]; done) | (simp; done) | (simp; omega))))
        | ((with_reducible apply AWP_cond_f); (case hc => rfl); (case hb => (first | with_reducible assumption | with_reducible rfl | (simp only [hd]; done) | (simp; done) | (simp; omega))))
        | ((with_reducible apply S_move); (case hx => rfl); (case hs => (simp only [aput, List.set_cons_succ, List.set_cons_zero]; rfl)))
        | ((with_reducible apply S_assign); (case hx => rfl); (case hs => (simp only [aput, List.set_cons_succ, List.set_cons_zero]; rfl)))
        | ((with_reducible apply AOPS_len_sl); (case hx => rfl); (case hs => (simp only [aput, List.set_cons_succ, List.set_cons_zero]; rfl)))
        | ((with_reducible apply AOPS_len_nils); (case hx => rfl); (case hs => (simp only [aput, List.set_cons_succ, List.set_cons_zero]; rfl)))
        | ((with_reducible apply AOPS_len_row); (case hx => rfl); (case hs => (simp only [aput, List.set_cons_succ, List.set_cons_zero]; rfl)))
        | ((with_reducible apply AOPS_len_str); (case hx => rfl); (case hs => (simp only [aput, List.set_cons_succ, List.set_cons_zero]; rfl)))
        | ((with_reducible apply S_len_isB); (case hx => rfl); (case hb => assumption); (case hs => (simp only [aput, List.set_cons_succ, List.set_cons_zero]; rfl)))
        | ((with_reducible apply S_inc8); (case hx => rfl); (case hy => rfl); (case hs => (simp only [aput, List.set_cons_succ, List.set_cons_zero]; rfl)))
        | ((with_reducible apply S_add); (case hx => rfl); (case hy => rfl); (case hb => (first | (constructor <;> omega) | omega | (simp; done) | (simp; omega))); (case hs => (simp only [aput, List.set_cons_succ, List.set_cons_zero]; rfl)))
        | ((with_reducible apply S_xor8); (case hx => rfl); (case hy => rfl); (case hs => (simp only [aput, List.set_cons_succ, List.set_cons_zero]; rfl)))
        | ((with_reducible apply S_bin); (case hx => rfl); (case hy => rfl); (case ho => rfl); (case hs => (simp only [aput, List.set_cons_succ, List.set_cons_zero]; rfl)))
        | ((with_reducible apply AOPS_str); (case hx => rfl); (case hy => rfl); (case ho => rfl); (case hs => (simp only [aput, List.set_cons_succ, List.set_cons_zero]; rfl)))
        | ((with_reducible apply S_load_all); (case hx => rfl); (case ho => rfl); (case hp => rfl); (case hs => (simp only [aput, List.set_cons_succ, List.set_cons_zero]; rfl)))
        | ((with_reducible apply S_load_agg); (case hx => rfl); (case ho => rfl); (case hp => rfl); (case hs => (simp only [aput, List.set_cons_succ, List.set_cons_zero]; rfl)))
        | ((with_reducible apply S_load_epr_sub); (case hx => rfl); (case hp => rfl); (case hs => (simp only [aput, List.set_cons_succ, List.set_cons_zero]; rfl)))
        | ((with_reducible apply S_load); (case hx => rfl); (case ho => rfl); (case hp => rfl); (case hs => (simp only [aput, List.set_cons_succ, List.set_cons_zero]; rfl)))
        | ((with_reducible apply S_load_epr); (case hx => rfl); (case hp => rfl); (case hs => (simp only [aput, List.set_cons_succ, List.set_cons_zero]; rfl)))
        | ((with_reducible apply S_load_byte); (case hx => rfl); (case hlt => (first | (constructor <;> omega) | omega | (simp; done) | (simp; omega))); (case hs => (simp only [aput, List.set_cons_succ, List.set_cons_zero]; rfl)))
        | ((with_reducible apply S_lit); (case hp => rfl); (case ho => (first | rfl | (simp only [List.all_cons, List.all_nil, Bool.and_true, Bool.and_self, bvA_one, sl_one, nils_one, str_one, hd]; done) | (simp [AV.one, hd]; done))); (case hl => rfl); (case hzl => rfl); (case hb => decide); (case hs => (simp only [aput, List.set_cons_succ, List.set_cons_zero]; rfl)))
        | ((with_reducible apply T_append_full); (case hx => rfl); (case hy => rfl); (case hS => (first | exact SrcOk_bytes inferInstance (by first | rfl | assumption | (simp; done) | omega) | exact SrcOk_sl inferInstance (by simp) (by first | rfl | (simp only [List.all_cons, List.all_nil, bvA_one, Bool.and_self]; done) | simp [AV.one, bvA_ones]) | exact SrcOk_nils inferInstance | exact SrcOk_str inferInstance | exact SrcOk_isB inferInstance (by assumption))); (case hl => (first | rfl | (simp; done))); (case hb => (first | (constructor <;> omega) | omega | (simp; done) | (simp; omega))); (case hs => (simp only [aput, List.set_cons_succ, List.set_cons_zero]; rfl)))
        | ((with_reducible apply T_append_nils); (case hx => rfl); (case hy => rfl); (case hS => (first | exact SrcOk_bytes inferInstance (by first | rfl | assumption | (simp; done) | omega) | exact SrcOk_sl inferInstance (by simp) (by first | rfl | (simp only [List.all_cons, List.all_nil, bvA_one, Bool.and_self]; done) | simp [AV.one, bvA_ones]) | exact SrcOk_nils inferInstance | exact SrcOk_str inferInstance | exact SrcOk_isB inferInstance (by assumption))); (case hb => (first | (constructor <;> omega) | omega | (simp; done) | (simp; omega))); (case hs => (simp only [aput, List.set_cons_succ, List.set_cons_zero]; rfl)))
        | ((with_reducible apply U_append_tok); (case hx => rfl); (case hy => rfl); (case htk => (first | rfl | (simp [alook]; done))); (case hS => (first | exact SrcOk_bytes inferInstance (by first | rfl | assumption | (simp; done) | omega) | exact SrcOk_sl inferInstance (by simp) (by first | rfl | (simp only [List.all_cons, List.all_nil, bvA_one, Bool.and_self]; done) | simp [AV.one, bvA_ones]) | exact SrcOk_nils inferInstance | exact SrcOk_str inferInstance | exact SrcOk_isB inferInstance (by assumption))); (case hb => (first | (constructor <;> omega) | omega | (simp; done) | (simp; omega))); (case ht => (first | rfl | (simp only [asetF, if_true]; rfl))); (case hs => (simp only [aput, List.set_cons_succ, List.set_cons_zero]; rfl)))
        | ((with_reducible apply S_indexAddr); (case hx => rfl); (case hy => rfl); (case hj => rfl); (case hi => (first | (constructor <;> omega) | omega | (simp; done) | (simp; omega))); (case ho => (first | (simp; rfl) | rfl)); (case hs => (simp only [aput, List.set_cons_succ, List.set_cons_zero]; rfl)))
        | ((with_reducible apply S_indexAddr_isB); (case hx => rfl); (case hb => assumption); (case hy => rfl); (case hj => rfl); (case hi => (first | (constructor <;> omega) | omega | (simp; done) | (simp; omega))); (case hs => (simp only [aput, List.set_cons_succ, List.set_cons_zero]; rfl)))
        | ((with_reducible apply AOPS_indexAddr); (case hx => rfl); (case hy => rfl); (case hi => (first | (constructor <;> omega) | omega | (simp; done) | (simp; omega))); (case hs => (simp only [aput, List.set_cons_succ, List.set_cons_zero]; rfl)))
        | ((with_reducible apply AOPS_indexAddr_row); (case hx => rfl); (case hy => rfl); (case hi => (first | (constructor <;> omega) | omega | (simp; done) | (simp; omega))); (case hs => (simp only [aput, List.set_cons_succ, List.set_cons_zero]; rfl)))
        | ((with_reducible apply AOPS_indexAddr_arr); (case hx => rfl); (case hy => rfl); (case hi => (first | (constructor <;> omega) | omega | (simp; done) | (simp; omega))); (case hs => (simp only [aput, List.set_cons_succ, List.set_cons_zero]; rfl)))
        | fail)
      refine ARet_ret rfl (.tmpO rfl .nil) ?_
      refine ⟨1, ?_, rfl⟩
      rw [aone, hcs, List.take_of_length_le (by rw [padK_length]; omega)]
  · have hl : decide ((key.length : Int) > 64) = false := by simp; omega
    rw [← keyK_of_short (show key.length ≤ 64 by omega)] at hk1
    have hl2 : decide (((keyK key).length : Int) > 64) = false := by rw [keyK_of_short (by omega)]; exact hl
    repeat' (first
      | with_reducible refine AWP_seq ?_
      | with_reducible refine AWP_region ?_
      | with_reducible refine AOPS_nil ?_
      | with_reducible refine AThen_normal ?_
      | with_reducible refine AThen_ret ?_
      | with_reducible refine AThen_exit ?_
      | with_reducible refine ABlock_normal ?_
      | with_reducible refine ABlock_ret ?_
      | with_reducible refine ABlock_exit ?_
      | ((with_reducible apply ABlock_other); (case hij => rfl))
      | with_reducible refine ARound_ret ?_
      | with_reducible refine ARound_exit ?_
      | with_reducible refine ANext_normal ?_
      | with_reducible refine ANext_ret ?_
      | with_reducible refine ANext_exit ?_
      | with_reducible refine ARounds_step ?_
      | with_reducible refine ALoopQ_ret ?_
      | with_reducible refine ALoopQ_exit ?_
      | with_reducible refine AWP_block ?_
      | with_reducible refine AWP_skip ?_
      | with_reducible refine AWP_ret ?_
      | with_reducible refine AWP_exit ?_
      | ((with_reducible apply AWP_cond_t); (case hc => rfl); (case hb => (first | with_reducible assumption | with_reducible rfl | (simp only [hl2]; done) | (simp; done) | (simp; omega))))
      | ((with_reducible apply AWP_cond_f); (case hc => rfl); (case hb => (first | with_reducible assumption | with_reducible rfl | (simp only [hl2]; done) | (simp; done) | (simp; omega))))
      | ((with_reducible apply S_move); (case hx => rfl); (case hs => (simp only [aput, List.set_cons_succ, List.set_cons_zero]; rfl)))
      | ((with_reducible apply S_assign); (case hx => rfl); (case hs => (simp only [aput, List.set_cons_succ, List.set_cons_zero]; rfl)))
      | ((with_reducible apply AOPS_len_sl); (case hx => rfl); (case hs => (simp only [aput, List.set_cons_succ, List.set_cons_zero]; rfl)))
      | ((with_reducible apply AOPS_len_nils); (case hx => rfl); (case hs => (simp only [aput, List.set_cons_succ, List.set_cons_zero]; rfl)))
      | ((with_reducible apply AOPS_len_row); (case hx => rfl); (case hs => (simp only [aput, List.set_cons_succ, List.set_cons_zero]; rfl)))
      | ((with_reducible apply AOPS_len_str); (case hx => rfl); (case hs => (simp only [aput, List.set_cons_succ, List.set_cons_zero]; rfl)))
      | ((with_reducible apply S_len_isB); (case hx => rfl); (case hb => assumption); (case hs => (simp only [aput, List.set_cons_succ, List.set_cons_zero]; rfl)))
      | ((with_reducible apply S_inc8); (case hx => rfl); (case hy => rfl); (case hs => (simp only [aput, List.set_cons_succ, List.set_cons_zero]; rfl)))
      | ((with_reducible apply S_add); (case hx => rfl); (case hy => rfl); (case hb => (first | (constructor <;> omega) | omega | (simp; done) | (simp; omega))); (case hs => (simp only [aput, List.set_cons_succ, List.set_cons_zero]; rfl)))
      | ((with_reducible apply S_xor8); (case hx => rfl); (case hy => rfl); (case hs => (simp only [aput, List.set_cons_succ, List.set_cons_zero]; rfl)))
      | ((with_reducible apply S_bin); (case hx => rfl); (case hy => rfl); (case ho => rfl); (case hs => (simp only [aput, List.set_cons_succ, List.set_cons_zero]; rfl)))
      | ((with_reducible apply AOPS_str); (case hx => rfl); (case hy => rfl); (case ho => rfl); (case hs => (simp only [aput, List.set_cons_succ, List.set_cons_zero]; rfl)))
      | ((with_reducible apply S_load_all); (case hx => rfl); (case ho => rfl); (case hp => rfl); (case hs => (simp only [aput, List.set_cons_succ, List.set_cons_zero]; rfl)))
      | ((with_reducible apply S_load_agg); (case hx => rfl); (case ho => rfl); (case hp => rfl); (case hs => (simp only [aput, List.set_cons_succ, List.set_cons_zero]; rfl)))
      | ((with_reducible apply S_load_epr_sub); (case hx => rfl); (case hp => rfl); (case hs => (simp only [aput, List.set_cons_succ, List.set_cons_zero]; rfl)))
      | ((with_reducible apply S_load); (case hx => rfl); (case ho => rfl); (case hp => rfl); (case hs => (simp only [aput, List.set_cons_succ, List.set_cons_zero]; rfl)))
      | ((with_reducible apply S_load_epr); (case hx => rfl); (case hp => rfl); (case hs => (simp only [aput, List.set_cons_succ, List.set_cons_zero]; rfl)))
      | ((with_reducible apply S_load_byte); (case hx => rfl); (case hlt => (first | (constructor <;> omega) | omega | (simp; done) | (simp; omega))); (case hs => (simp only [aput, List.set_cons_succ, List.set_cons_zero]; rfl)))
      | ((with_reducible apply S_lit); (case hp => rfl); (case ho => (first | rfl | (simp only [List.all_cons, List.all_nil, Bool.and_true, Bool.and_self, bvA_one, sl_one, nils_one, str_one, hl2]; done) | (simp [AV.one, hl2]; done))); (case hl => rfl); (case hzl => rfl); (case hb => decide); (case hs => (simp only [aput, List.set_cons_succ, List.set_cons_zero]; rfl)))
      | ((with_reducible apply T_append_full); (case hx => rfl); (case hy => rfl); (case hS => (first | exact SrcOk_bytes inferInstance (by first | rfl | assumption | (simp; done) | omega) | exact SrcOk_sl inferInstance (by simp) (by first | rfl | (simp only [List.all_cons, List.all_nil, bvA_one, Bool.and_self]; done) | simp [AV.one, bvA_ones]) | exact SrcOk_nils inferInstance | exact SrcOk_str inferInstance | exact SrcOk_isB inferInstance (by assumption))); (case hl => (first | rfl | (simp; done))); (case hb => (first | (constructor <;> omega) | omega | (simp; done) | (simp; omega))); (case hs => (simp only [aput, List.set_cons_succ, List.set_cons_zero]; rfl)))
      | ((with_reducible apply T_append_nils); (case hx => rfl); (case hy => rfl); (case hS => (first | exact SrcOk_bytes inferInstance (by first | rfl | assumption | (simp; done) | omega) | exact SrcOk_sl inferInstance (by simp) (by first | rfl | (simp only [List.all_cons, List.all_nil, bvA_one, Bool.and_self]; done) | simp [AV.one, bvA_ones]) | exact SrcOk_nils inferInstance | exact SrcOk_str inferInstance | exact SrcOk_isB inferInstance (by assumption))); (case hb => (first | (constructor <;> omega) | omega | (simp; done) | (simp; omega))); (case hs => (simp only [aput, List.set_cons_succ, List.set_cons_zero]; rfl)))
      | ((with_reducible apply U_append_tok); (case hx => rfl); (case hy => rfl); (case htk => (first | rfl | (simp [alook]; done))); (case hS => (first | exact SrcOk_bytes inferInstance (by first | rfl | assumption | (simp; done) | omega) | exact SrcOk_sl inferInstance (by simp) (by first | rfl | (simp only [List.all_cons, List.all_nil, bvA_one, Bool.and_self]; done) | simp [AV.one, bvA_ones]) | exact SrcOk_nils inferInstance | exact SrcOk_str inferInstance | exact SrcOk_isB inferInstance (by assumption))); (case hb => (first | (constructor <;> omega) | omega | (simp; done) | (simp; omega))); (case ht => (first | rfl | (simp only [asetF, if_true]; rfl))); (case hs => (simp only [aput, List.set_cons_succ, List.set_cons_zero]; rfl)))
      | ((with_reducible apply S_indexAddr); (case hx => rfl); (case hy => rfl); (case hj => rfl); (case hi => (first | (constructor <;> omega) | omega | (simp; done) | (simp; omega))); (case ho => (first | (simp; rfl) | rfl)); (case hs => (simp only [aput, List.set_cons_succ, List.set_cons_zero]; rfl)))
      | ((with_reducible apply S_indexAddr_isB); (case hx => rfl); (case hb => assumption); (case hy => rfl); (case hj => rfl); (case hi => (first | (constructor <;> omega) | omega | (simp; done) | (simp; omega))); (case hs => (simp only [aput, List.set_cons_succ, List.set_cons_zero]; rfl)))
      | ((with_reducible apply AOPS_indexAddr); (case hx => rfl); (case hy => rfl); (case hi => (first | (constructor <;> omega) | omega | (simp; done) | (simp; omega))); (case hs => (simp only [aput, List.set_cons_succ, List.set_cons_zero]; rfl)))
      | ((with_reducible apply AOPS_indexAddr_row); (case hx => rfl); (case hy => rfl); (case hi => (first | (constructor <;> omega) | omega | (simp; done) | (simp; omega))); (case hs => (simp only [aput, List.set_cons_succ, List.set_cons_zero]; rfl)))
      | ((with_reducible apply AOPS_indexAddr_arr); (case hx => rfl); (case hy => rfl); (case hi => (first | (constructor <;> omega) | omega | (simp; done) | (simp; omega))); (case hs => (simp only [aput, List.set_cons_succ, List.set_cons_zero]; rfl)))
      | fail)
    refine AWP_adopt 5 1 rfl (by simp only [setF]; rfl) ?_
    repeat (first
      | with_reducible refine AWP_seq ?_
      | with_reducible refine AWP_region ?_
      | with_reducible refine AOPS_nil ?_
      | with_reducible refine AThen_normal ?_
      | with_reducible refine AThen_ret ?_
      | with_reducible refine AThen_exit ?_
      | with_reducible refine ABlock_normal ?_
      | with_reducible refine ABlock_ret ?_
      | with_reducible refine ABlock_exit ?_
      | ((with_reducible apply ABlock_other); (case hij => rfl))
      | with_reducible refine ARound_ret ?_
      | with_reducible refine ARound_exit ?_
      | with_reducible refine ANext_normal ?_
      | with_reducible refine ANext_ret ?_
      | with_reducible refine ANext_exit ?_
      | with_reducible refine ARounds_step ?_
      | with_reducible refine ALoopQ_ret ?_
      | with_reducible refine ALoopQ_exit ?_
      | with_reducible refine AWP_block ?_
      | with_reducible refine AWP_skip ?_
      | with_reducible refine AWP_ret ?_
      | with_reducible refine AWP_exit ?_
      | ((with_reducible apply AWP_cond_t); (case hc => rfl); (case hb => (first | with_reducible assumption | with_reducible rfl | (simp; done) | (simp; omega))))
      | ((with_reducible apply AWP_cond_f); (case hc => rfl); (case hb => (first | with_reducible assumption | with_reducible rfl | (simp; done) | (simp; omega))))
      | ((with_reducible apply S_move); (case hx => rfl); (case hs => (simp only [aput, List.set_cons_succ, List.set_cons_zero]; rfl)))
      | ((with_reducible apply S_assign); (case hx => rfl); (case hs => (simp only [aput, List.set_cons_succ, List.set_cons_zero]; rfl)))
      | ((with_reducible apply AOPS_len_sl); (case hx => rfl); (case hs => (simp only [aput, List.set_cons_succ, List.set_cons_zero]; rfl)))
      | ((with_reducible apply AOPS_len_nils); (case hx => rfl); (case hs => (simp only [aput, List.set_cons_succ, List.set_cons_zero]; rfl)))
      | ((with_reducible apply AOPS_len_row); (case hx => rfl); (case hs => (simp only [aput, List.set_cons_succ, List.set_cons_zero]; rfl)))
      | ((with_reducible apply AOPS_len_str); (case hx => rfl); (case hs => (simp only [aput, List.set_cons_succ, List.set_cons_zero]; rfl)))
      | ((with_reducible apply S_len_isB); (case hx => rfl); (case hb => assumption); (case hs => (simp only [aput, List.set_cons_succ, List.set_cons_zero]; rfl)))
      | ((with_reducible apply S_inc8); (case hx => rfl); (case hy => rfl); (case hs => (simp only [aput, List.set_cons_succ, List.set_cons_zero]; rfl)))
      | ((with_reducible apply S_add); (case hx => rfl); (case hy => rfl); (case hb => (first | (constructor <;> omega) | omega | (simp; done) | (simp; omega))); (case hs => (simp only [aput, List.set_cons_succ, List.set_cons_zero]; rfl)))
      | ((with_reducible apply S_xor8); (case hx => rfl); (case hy => rfl); (case hs => (simp only [aput, List.set_cons_succ, List.set_cons_zero]; rfl)))
      | ((with_reducible apply S_bin); (case hx => rfl); (case hy => rfl); (case ho => rfl); (case hs => (simp only [aput, List.set_cons_succ, List.set_cons_zero]; rfl)))
      | ((with_reducible apply AOPS_str); (case hx => rfl); (case hy => rfl); (case ho => rfl); (case hs => (simp only [aput, List.set_cons_succ, List.set_cons_zero]; rfl)))
      | ((with_reducible apply S_load_all); (case hx => rfl); (case ho => rfl); (case hp => rfl); (case hs => (simp only [aput, List.set_cons_succ, List.set_cons_zero]; rfl)))
      | ((with_reducible apply S_load_agg); (case hx => rfl); (case ho => rfl); (case hp => rfl); (case hs => (simp only [aput, List.set_cons_succ, List.set_cons_zero]; rfl)))
      | ((with_reducible apply S_load_epr_sub); (case hx => rfl); (case hp => rfl); (case hs => (simp only [aput, List.set_cons_succ, List.set_cons_zero]; rfl)))
      | ((with_reducible apply S_load); (case hx => rfl); (case ho => rfl); (case hp => rfl); (case hs => (simp only [aput, List.set_cons_succ, List.set_cons_zero]; rfl)))
      | ((with_reducible apply S_load_epr); (case hx => rfl); (case hp => rfl); (case hs => (simp only [aput, List.set_cons_succ, List.set_cons_zero]; rfl)))
      | ((with_reducible apply S_load_byte); (case hx => rfl); (case hlt => (first | (constructor <;> omega) | omega | (simp; done) | (simp; omega))); (case hs => (simp only [aput, List.set_cons_succ, List.set_cons_zero]; rfl)))
      | ((with_reducible apply S_lit); (case hp => rfl); (case ho => (first | rfl | (simp only [List.all_cons, List.all_nil, Bool.and_true, Bool.and_self, bvA_one, sl_one, nils_one, str_one]; done) | (simp [AV.one]; done))); (case hl => rfl); (case hzl => rfl); (case hb => decide); (case hs => (simp only [aput, List.set_cons_succ, List.set_cons_zero]; rfl)))
      | ((with_reducible apply T_append_full); (case hx => rfl); (case hy => rfl); (case hS => (first | exact SrcOk_bytes inferInstance (by first | rfl | assumption | (simp; done) | omega) | exact SrcOk_sl inferInstance (by simp) (by first | rfl | (simp only [List.all_cons, List.all_nil, bvA_one, Bool.and_self]; done) | simp [AV.one, bvA_ones]) | exact SrcOk_nils inferInstance | exact SrcOk_str inferInstance | exact SrcOk_isB inferInstance (by assumption))); (case hl => (first | rfl | (simp; done))); (case hb => (first | (constructor <;> omega) | omega | (simp; done) | (simp; omega))); (case hs => (simp only [aput, List.set_cons_succ, List.set_cons_zero]; rfl)))
      | ((with_reducible apply T_append_nils); (case hx => rfl); (case hy => rfl); (case hS => (first | exact SrcOk_bytes inferInstance (by first | rfl | assumption | (simp; done) | omega) | exact SrcOk_sl inferInstance (by simp) (by first | rfl | (simp only [List.all_cons, List.all_nil, bvA_one, Bool.and_self]; done) | simp [AV.one, bvA_ones]) | exact SrcOk_nils inferInstance | exact SrcOk_str inferInstance | exact SrcOk_isB inferInstance (by assumption))); (case hb => (first | (constructor <;> omega) | omega | (simp; done) | (simp; omega))); (case hs => (simp only [aput, List.set_cons_succ, List.set_cons_zero]; rfl)))
      | ((with_reducible apply U_append_tok); (case hx => rfl); (case hy => rfl); (case htk => (first | rfl | (simp [alook]; done))); (case hS => (first | exact SrcOk_bytes inferInstance (by first | rfl | assumption | (simp; done) | omega) | exact SrcOk_sl inferInstance (by simp) (by first | rfl | (simp only [List.all_cons, List.all_nil, bvA_one, Bool.and_self]; done) | simp [AV.one, bvA_ones]) | exact SrcOk_nils inferInstance | exact SrcOk_str inferInstance | exact SrcOk_isB inferInstance (by assumption))); (case hb => (first | (constructor <;> omega) | omega | (simp; done) | (simp; omega))); (case ht => (first | rfl | (simp only [asetF, if_true]; rfl))); (case hs => (simp only [aput, List.set_cons_succ, List.set_cons_zero]; rfl)))
      | ((with_reducible apply S_indexAddr); (case hx => rfl); (case hy => rfl); (case hj => rfl); (case hi => (first | (constructor <;> omega) | omega | (simp; done) | (simp; omega))); (case ho => (first | (simp; rfl) | rfl)); (case hs => (simp only [aput, List.set_cons_succ, List.set_cons_zero]; rfl)))
      | ((with_reducible apply S_indexAddr_isB); (case hx => rfl); (case hb => assumption); (case hy => rfl); (case hj => rfl); (case hi => (first | (constructor <;> omega) | omega | (simp; done) | (simp; omega))); (case hs => (simp only [aput, List.set_cons_succ, List.set_cons_zero]; rfl)))
      | ((with_reducible apply AOPS_indexAddr); (case hx => rfl); (case hy => rfl); (case hi => (first | (constructor <;> omega) | omega | (simp; done) | (simp; omega))); (case hs => (simp only [aput, List.set_cons_succ, List.set_cons_zero]; rfl)))
      | ((with_reducible apply AOPS_indexAddr_row); (case hx => rfl); (case hy => rfl); (case hi => (first | (constructor <;> omega) | omega | (simp; done) | (simp; omega))); (case hs => (simp only [aput, List.set_cons_succ, List.set_cons_zero]; rfl)))
      | ((with_reducible apply AOPS_indexAddr_arr); (case hx => rfl); (case hy => rfl); (case hi => (first | (constructor <;> omega) | omega | (simp; done) | (simp; omega))); (case hs => (simp only [aput, List.set_cons_succ, List.set_cons_zero]; rfl)))
      | fail)
    refine AWP_loopS [0, 1, 4, 5, 6, 7, 13, 14, 15, 16, 17, 18, 19, 20, 21, 22, 23, 24, 25, 26, 27, 28, 29, 30, 31] (N := Nat × List AV × List AV) (fun ⟨k, cs, js⟩ => [a1, bvA x, .nils, .sl (.tok 0 k 1) cs k, .int .i64 k, js.getD 0 .und, js.getD 1 .und, js.getD 2 .und, js.getD 3 .und, js.getD 4 .und, js.getD 5 .und, js.getD 6 .und, js.getD 7 .und, js.getD 8 .und, js.getD 9 .und, js.getD 10 .und, js.getD 11 .und, js.getD 12 .und, js.getD 13 .und, js.getD 14 .und, js.getD 15 .und, js.getD 16 .und, js.getD 17 .und, js.getD 18 .und, js.getD 19 .und]) (fun ⟨k, cs, js⟩ => ⟨[], (0, k) :: [], 1⟩) (fun ⟨k, cs, js⟩ => k ≤ 64 ∧ cs = ((padK key x).take k).map bvA) (fun ⟨k, cs, js⟩ => 64 - k) ⟨0, [], [_, _, _, _, _, _, _, _, _, _, _, _, _, _, _, _, _, _, _, _]⟩ rfl rfl ?hi0 ?_
    rotate_left
    rintro ⟨k, cs, js⟩ sl_ hs hi
    simp only [setsF, setF, Option.some.injEq] at hs
    subst hs
    case hi0 => exact ⟨by omega, by simp⟩
    obtain ⟨hk64, hcs⟩ := hi
    by_cases hlt : k < 64
    · have hd : decide ((k : Int) < 64) = true := by simp; omega
      by_cases hkk : k < (keyK key).length
      · have hd2 : decide ((k : Int) < ((keyK key).length : Int)) = true := by simp; omega
        repeat (first
          | with_reducible refine AWP_seq ?_
          | with_reducible refine AWP_region ?_
          | with_reducible refine AOPS_nil ?_
          | with_reducible refine AThen_normal ?_
          | with_reducible refine AThen_ret ?_
          | with_reducible refine AThen_exit ?_
          | with_reducible refine ABlock_normal ?_
          | with_reducible refine ABlock_ret ?_
          | with_reducible refine ABlock_exit ?_
          | ((with_reducible apply ABlock_other); (case hij => rfl))
          | with_reducible refine ARound_ret ?_
          | with_reducible refine ARound_exit ?_
          | with_reducible refine ANext_normal ?_
          | with_reducible refine ANext_ret ?_
          | with_reducible refine ANext_exit ?_
          | with_reducible refine ARounds_step ?_
          | with_reducible refine ALoopQ_ret ?_
          | with_reducible refine ALoopQ_exit ?_
          | with_reducible refine AWP_block ?_
          | with_reducible refine AWP_skip ?_
          | with_reducible refine AWP_ret ?_
          | with_reducible refine AWP_exit ?_
          | ((with_reducible apply AWP_cond_t); (case hc => rfl); (case hb => (first | with_reducible assumption | with_reducible rfl | (simp only [hd, hd2]; done) | (simp; done) | (simp; omega))))
          | ((with_reducible apply AWP_cond_f); (case hc => rfl); (case hb => (first | with_reducible assumption | with_reducible rfl | (simp only [hd, hd2]; done) | (simp; done) | (simp; omega))))
          | ((with_reducible apply S_move); (case hx => rfl); (case hs => (simp only [aput, List.set_cons_succ, List.set_cons_zero]; rfl)))
          | ((with_reducible apply S_assign); (case hx => rfl); (case hs => (simp only [aput, List.set_cons_succ, List.set_cons_zero]; rfl)))
          | ((with_reducible apply AOPS_len_sl); (case hx => rfl); (case hs => (simp only [aput, List.set_cons_succ, List.set_cons_zero]; rfl)))
          | ((with_reducible apply AOPS_len_nils); (case hx => rfl); (case hs => (simp only [aput, List.set_cons_succ, List.set_cons_zero]; rfl)))
          | ((with_reducible apply AOPS_len_row); (case hx => rfl); (case hs => (simp only [aput, List.set_cons_succ, List.set_cons_zero]; rfl)))
          | ((with_reducible apply AOPS_len_str); (case hx => rfl); (case hs => (simp only [aput, List.set_cons_succ, List.set_cons_zero]; rfl)))
          | ((with_reducible apply S_len_isB); (case hx => rfl); (case hb => assumption); (case hs => (simp only [aput, List.set_cons_succ, List.set_cons_zero]; rfl)))
          | ((with_reducible apply S_inc8); (case hx => rfl); (case hy => rfl); (case hs => (simp only [aput, List.set_cons_succ, List.set_cons_zero]; rfl)))
          | ((with_reducible apply S_add); (case hx => rfl); (case hy => rfl); (case hb => (first | (constructor <;> omega) | omega | (simp; done) | (simp; omega))); (case hs => (simp only [aput, List.set_cons_succ, List.set_cons_zero]; rfl)))
          | ((with_reducible apply S_xor8); (case hx => rfl); (case hy => rfl); (case hs => (simp only [aput, List.set_cons_succ, List.set_cons_zero]; rfl)))
          | ((with_reducible apply S_bin); (case hx => rfl); (case hy => rfl); (case ho => rfl); (case hs => (simp only [aput, List.set_cons_succ, List.set_cons_zero]; rfl)))
          | ((with_reducible apply AOPS_str); (case hx => rfl); (case hy => rfl); (case ho => rfl); (case hs => (simp only [aput, List.set_cons_succ, List.set_cons_zero]; rfl)))
          | ((with_reducible apply S_load_all); (case hx => rfl); (case ho => rfl); (case hp => rfl); (case hs => (simp only [aput, List.set_cons_succ, List.set_cons_zero]; rfl)))
          | ((with_reducible apply S_load_agg); (case hx => rfl); (case ho => rfl); (case hp => rfl); (case hs => (simp only [aput, List.set_cons_succ, List.set_cons_zero]; rfl)))
          | ((with_reducible apply S_load_epr_sub); (case hx => rfl); (case hp => rfl); (case hs => (simp only [aput, List.set_cons_succ, List.set_cons_zero]; rfl)))
          | ((with_reducible apply S_load); (case hx => rfl); (case ho => rfl); (case hp => rfl); (case hs => (simp only [aput, List.set_cons_succ, List.set_cons_zero]; rfl)))
          | ((with_reducible apply S_load_epr); (case hx => rfl); (case hp => rfl); (case hs => (simp only [aput, List.set_cons_succ, List.set_cons_zero]; rfl)))
          | ((with_reducible apply S_load_byte); (case hx => rfl); (case hlt => (first | (constructor <;> omega) | omega | (simp; done) | (simp; omega))); (case hs => (simp only [aput, List.set_cons_succ, List.set_cons_zero]; rfl)))
          | ((with_reducible apply S_lit); (case hp => rfl); (case ho => (first | rfl | (simp only [List.all_cons, List.all_nil, Bool.and_true, Bool.and_self, bvA_one, sl_one, nils_one, str_one, hd, hd2]; done) | (simp [AV.one, hd, hd2]; done))); (case hl => rfl); (case hzl => rfl); (case hb => decide); (case hs => (simp only [aput, List.set_cons_succ, List.set_cons_zero]; rfl)))
          | ((with_reducible apply T_append_full); (case hx => rfl); (case hy => rfl); (case hS => (first | exact SrcOk_bytes inferInstance (by first | rfl | assumption | (simp; done) | omega) | exact SrcOk_sl inferInstance (by simp) (by first | rfl | (simp only [List.all_cons, List.all_nil, bvA_one, Bool.and_self]; done) | simp [AV.one, bvA_ones]) | exact SrcOk_nils inferInstance | exact SrcOk_str inferInstance | exact SrcOk_isB inferInstance (by assumption))); (case hl => (first | rfl | (simp; done))); (case hb => (first | (constructor <;> omega) | omega | (simp; done) | (simp; omega))); (case hs => (simp only [aput, List.set_cons_succ, List.set_cons_zero]; rfl)))
          | ((with_reducible apply T_append_nils); (case hx => rfl); (case hy => rfl); (case hS => (first | exact SrcOk_bytes inferInstance (by first | rfl | assumption | (simp; done) | omega) | exact SrcOk_sl inferInstance (by simp) (by first | rfl | (simp only [List.all_cons, List.all_nil, bvA_one, Bool.and_self]; done) | simp [AV.one, bvA_ones]) | exact SrcOk_nils inferInstance | exact SrcOk_str inferInstance | exact SrcOk_isB inferInstance (by assumption))); (case hb => (first | (constructor <;> omega) | omega | (simp; done) | (simp; omega))); (case hs => (simp only [aput, List.set_cons_succ, List.set_cons_zero]; rfl)))
          | ((with_reducible apply U_append_tok); (case hx => rfl); (case hy => rfl); (case htk => (first | rfl | (simp [alook]; done))); (case hS => (first | exact SrcOk_bytes inferInstance (by first | rfl | assumption | (simp; done) | omega) | exact SrcOk_sl inferInstance (by simp) (by first | rfl | (simp only [List.all_cons, List.all_nil, bvA_one, Bool.and_self]; done) | simp [AV.one, bvA_ones]) | exact SrcOk_nils inferInstance | exact SrcOk_str inferInstance | exact SrcOk_isB inferInstance (by assumption))); (case hb => (first | (constructor <;> omega) | omega | (simp; done) | (simp; omega))); (case ht => (first | rfl | (simp only [asetF, if_true]; rfl))); (case hs => (simp only [aput, List.set_cons_succ, List.set_cons_zero]; rfl)))
          | ((with_reducible apply S_indexAddr); (case hx => rfl); (case hy => rfl); (case hj => rfl); (case hi => (first | (constructor <;> omega) | omega | (simp; done) | (simp; omega))); (case ho => (first | (simp; rfl) | rfl)); (case hs => (simp only [aput, List.set_cons_succ, List.set_cons_zero]; rfl)))
          | ((with_reducible apply S_indexAddr_isB); (case hx => rfl); (case hb => assumption); (case hy => rfl); (case hj => rfl); (case hi => (first | (constructor <;> omega) | omega | (simp; done) | (simp; omega))); (case hs => (simp only [aput, List.set_cons_succ, List.set_cons_zero]; rfl)))
          | ((with_reducible apply AOPS_indexAddr); (case hx => rfl); (case hy => rfl); (case hi => (first | (constructor <;> omega) | omega | (simp; done) | (simp; omega))); (case hs => (simp only [aput, List.set_cons_succ, List.set_cons_zero]; rfl)))
          | ((with_reducible apply AOPS_indexAddr_row); (case hx => rfl); (case hy => rfl); (case hi => (first | (constructor <;> omega) | omega | (simp; done) | (simp; omega))); (case hs => (simp only [aput, List.set_cons_succ, List.set_cons_zero]; rfl)))
          | ((with_reducible apply AOPS_indexAddr_arr); (case hx => rfl); (case hy => rfl); (case hi => (first | (constructor <;> omega) | omega | (simp; done) | (simp; omega))); (case hs => (simp only [aput, List.set_cons_succ, List.set_cons_zero]; rfl)))
          | fail)
        refine ALoopQ_normal ⟨k + 1, cs ++ [bvA (x ^^^ (keyK key).getD k 0)], [_, _, _, _, _, _, _, _, _, _, _, _, _, _, _, _, _, _, _, _]⟩ rfl rfl ?hi1 ?hm1
        case hi1 =>
          refine ⟨by omega, ?_⟩
          rw [hcs, padK_take _ _ _ hlt, List.map_append, UInt8.xor_comm]; rfl
        case hm1 => simp only; omega
      · have hd2 : decide ((k : Int) < ((keyK key).length : Int)) = false := by simp; omega
        repeat (first
          | with_reducible refine AWP_seq ?_
          | with_reducible refine AWP_region ?_
          | with_reducible refine AOPS_nil ?_
          | with_reducible refine AThen_normal ?_
          | with_reducible refine AThen_ret ?_
          | with_reducible refine AThen_exit ?_
          | with_reducible refine ABlock_normal ?_
          | with_reducible refine ABlock_ret ?_
          | with_reducible refine ABlock_exit ?_
          | ((with_reducible apply ABlock_other); (case hij => rfl))
          | with_reducible refine ARound_ret ?_
          | with_reducible refine ARound_exit ?_
          | with_reducible refine ANext_normal ?_
          | with_reducible refine ANext_ret ?_
          | with_reducible refine ANext_exit ?_
          | with_reducible refine ARounds_step ?_
          | with_reducible refine ALoopQ_ret ?_
          | with_reducible refine ALoopQ_exit ?_
          | with_reducible refine AWP_block ?_
          | with_reducible refine AWP_skip ?_
          | with_reducible refine AWP_ret ?_
          | with_reducible refine AWP_exit ?_
          | ((with_reducible apply AWP_cond_t); (case hc => rfl); (case hb => (first | with_reducible assumption | with_reducible rfl | (simp only [hd, hd2]; done) | (simp; done) | (simp; omega))))
          | ((with_reducible apply AWP_cond_f); (case hc => rfl); (case hb => (first | with_reducible assumption | with_reducible rfl | (simp only [hd, hd2]; done) | (simp; done) | (simp; omega))))
          | ((with_reducible apply S_move); (case hx => rfl); (case hs => (simp only [aput, List.set_cons_succ, List.set_cons_zero]; rfl)))
          | ((with_reducible apply S_assign); (case hx => rfl); (case hs => (simp only [aput, List.set_cons_succ, List.set_cons_zero]; rfl)))
          | ((with_reducible apply AOPS_len_sl); (case hx => rfl); (case hs => (simp only [aput, List.set_cons_succ, List.set_cons_zero]; rfl)))
          | ((with_reducible apply AOPS_len_nils); (case hx => rfl); (case hs => (simp only [aput, List.set_cons_succ, List.set_cons_zero]; rfl)))
          | ((with_reducible apply AOPS_len_row); (case hx => rfl); (case hs => (simp only [aput, List.set_cons_succ, List.set_cons_zero]; rfl)))
          | ((with_reducible apply AOPS_len_str); (case hx => rfl); (case hs => (simp only [aput, List.set_cons_succ, List.set_cons_zero]; rfl)))
          | ((with_reducible apply S_len_isB); (case hx => rfl); (case hb => assumption); (case hs => (simp only [aput, List.set_cons_succ, List.set_cons_zero]; rfl)))
          | ((with_reducible apply S_inc8); (case hx => rfl); (case hy => rfl); (case hs => (simp only [aput, List.set_cons_succ, List.set_cons_zero]; rfl)))
          | ((with_reducible apply S_add); (case hx => rfl); (case hy => rfl); (case hb => (first | (constructor <;> omega) | omega | (simp; done) | (simp; omega))); (case hs => (simp only [aput, List.set_cons_succ, List.set_cons_zero]; rfl)))
          | ((with_reducible apply S_xor8); (case hx => rfl); (case hy => rfl); (case hs => (simp only [aput, List.set_cons_succ, List.set_cons_zero]; rfl)))
          | ((with_reducible apply S_bin); (case hx => rfl); (case hy => rfl); (case ho => rfl); (case hs => (simp only [aput, List.set_cons_succ, List.set_cons_zero]; rfl)))
          | ((with_reducible apply AOPS_str); (case hx => rfl); (case hy => rfl); (case ho => rfl); (case hs => (simp only [aput, List.set_cons_succ, List.set_cons_zero]; rfl)))
          | ((with_reducible apply S_load_all); (case hx => rfl); (case ho => rfl); (case hp => rfl); (case hs => (simp only [aput, List.set_cons_succ, List.set_cons_zero]; rfl)))
          | ((with_reducible apply S_load_agg); (case hx => rfl); (case ho => rfl); (case hp => rfl); (case hs => (simp only [aput, List.set_cons_succ, List.set_cons_zero]; rfl)))
          | ((with_reducible apply S_load_epr_sub); (case hx => rfl); (case hp => rfl); (case hs => (simp only [aput, List.set_cons_succ, List.set_cons_zero]; rfl)))
          | ((with_reducible apply S_load); (case hx => rfl); (case ho => rfl); (case hp => rfl); (case hs => (simp only [aput, List.set_cons_succ, List.set_cons_zero]; rfl)))
          | ((with_reducible apply S_load_epr); (case hx => rfl); (case hp => rfl); (case hs => (simp only [aput, List.set_cons_succ, List.set_cons_zero]; rfl)))
          | ((with_reducible apply S_load_byte); (case hx => rfl); (case hlt => (first | (constructor <;> omega) | omega | (simp; done) | (simp; omega))); (case hs => (simp only [aput, List.set_cons_succ, List.set_cons_zero]; rfl)))
          | ((with_reducible apply S_lit); (case hp => rfl); (case ho => (first | rfl | (simp only [List.all_cons, List.all_nil, Bool.and_true, Bool.and_self, bvA_one, sl_one, nils_one, str_one, hd, hd2]; done) | (simp [AV.one, hd, hd2]; done))); (case hl => rfl); (case hzl => rfl); (case hb => decide); (case hs => (simp only [aput, List.set_cons_succ, List.set_cons_zero]; rfl)))
          | ((with_reducible apply T_append_full); (case hx => rfl); (case hy => rfl); (case hS => (first | exact SrcOk_bytes inferInstance (by first | rfl | assumption | (simp; done) | omega) | exact SrcOk_sl inferInstance (by simp) (by first | rfl | (simp only [List.all_cons, List.all_nil, bvA_one, Bool.and_self]; done) | simp [AV.one, bvA_ones]) | exact SrcOk_nils inferInstance | exact SrcOk_str inferInstance | exact SrcOk_isB inferInstance (by assumption))); (case hl => (first | rfl | (simp; done))); (case hb => (first | (constructor <;> omega) | omega | (simp; done) | (simp; omega))); (case hs => (simp only [aput, List.set_cons_succ, List.set_cons_zero]; rfl)))
          | ((with_reducible apply T_append_nils); (case hx => rfl); (case hy => rfl); (case hS => (first | exact SrcOk_bytes inferInstance (by first | rfl | assumption | (simp; done) | omega) | exact SrcOk_sl inferInstance (by simp) (by first | rfl | (simp only [List.all_cons, List.all_nil, bvA_one, Bool.and_self]; done) | simp [AV.one, bvA_ones]) | exact SrcOk_nils inferInstance | exact SrcOk_str inferInstance | exact SrcOk_isB inferInstance (by assumption))); (case hb => (first | (constructor <;> omega) | omega | (simp; done) | (simp; omega))); (case hs => (simp only [aput, List.set_cons_succ, List.set_cons_zero]; rfl)))
          | ((with_reducible apply U_append_tok); (case hx => rfl); (case hy => rfl); (case htk => (first | rfl | (simp [alook]; done))); (case hS => (first | exact SrcOk_bytes inferInstance (by first | rfl | assumption | (simp; done) | omega) | exact SrcOk_sl inferInstance (by simp) (by first | rfl | (simp only [List.all_cons, List.all_nil, bvA_one, Bool.and_self]; done) | simp [AV.one, bvA_ones]) | exact SrcOk_nils inferInstance | exact SrcOk_str inferInstance | exact SrcOk_isB inferInstance (by assumption))); (case hb => (first | (constructor <;> omega) | omega | (simp; done) | (simp; omega))); (case ht => (first | rfl | (simp only [asetF, if_true]; rfl))); (case hs => (simp only [aput, List.set_cons_succ, List.set_cons_zero]; rfl)))
          | ((with_reducible apply S_indexAddr); (case hx => rfl); (case hy => rfl); (case hj => rfl); (case hi => (first | (constructor <;> omega) | omega | (simp; done) | (simp; omega))); (case ho => (first | (simp; rfl) | rfl)); (case hs => (simp only [aput, List.set_cons_succ, List.set_cons_zero]; rfl)))
          | ((with_reducible apply S_indexAddr_isB); (case hx => rfl); (case hb => assumption); (case hy => rfl); (case hj => rfl); (case hi => (first | (constructor <;> omega) | omega | (simp; done) | (simp; omega))); (case hs => (simp only [aput, List.set_cons_succ, List.set_cons_zero]; rfl)))
          | ((with_reducible apply AOPS_indexAddr); (case hx => rfl); (case hy => rfl); (case hi => (first | (constructor <;> omega) | omega | (simp; done) | (simp; omega))); (case hs => (simp only [aput, List.set_cons_succ, List.set_cons_zero]; rfl)))
          | ((with_reducible apply AOPS_indexAddr_row); (case hx => rfl); (case hy => rfl); (case hi => (first | (constructor <;> omega) | omega | (simp; done) | (simp; omega))); (case hs => (simp only [aput, List.set_cons_succ, List.set_cons_zero]; rfl)))
          | ((with_reducible apply AOPS_indexAddr_arr); (case hx => rfl); (case hy => rfl); (case hi => (first | (constructor <;> omega) | omega | (simp; done) | (simp; omega))); (case hs => (simp only [aput, List.set_cons_succ, List.set_cons_zero]; rfl)))
          | fail)
        refine ALoopQ_normal ⟨k + 1, cs ++ [bvA x], [_, _, _, _, _, _, _, _, _, _, _, _, _, _, _, _, _, _, _, _]⟩ rfl rfl ?hi1 ?hm1
        case hi1 =>
          refine ⟨by omega, ?_⟩
          rw [hcs, padK_take _ _ _ hlt, List.map_append, show (keyK key).getD k 0 = 0 by rw [List.getD_eq_getElem?_getD, List.getElem?_eq_none (by omega)]; rfl, UInt8.zero_xor]; rfl
        case hm1 => simp only; omega
    · have hd : decide ((k : Int) < 64) = false := by simp; omega
      obtain rfl : k = 64 := by omega
      repeat (first
        | with_reducible refine AWP_seq ?_
        | with_reducible refine AWP_region ?_
        | with_reducible refine AOPS_nil ?_
        | with_reducible refine AThen_normal ?_
        | with_reducible refine AThen_ret ?_
        | with_reducible refine AThen_exit ?_
        | with_reducible refine ABlock_normal ?_
        | with_reducible refine ABlock_ret ?_
        | with_reducible refine ABlock_exit ?_
        | ((with_reducible apply ABlock_other); (case hij => rfl))
        | with_reducible refine ARound_ret ?_
        | with_reducible refine ARound_exit ?_
        | with_reducible refine ANext_normal ?_
        | with_reducible refine ANext_ret ?_
        | with_reducible refine ANext_exit ?_
        | with_reducible refine ARounds_step ?_
        | with_reducible refine ALoopQ_ret ?_
        | with_reducible refine ALoopQ_exit ?_
        | with_reducible refine AWP_block ?_
        | with_reducible refine AWP_skip ?_
        | with_reducible refine AWP_ret ?_
        | with_reducible refine AWP_exit ?_
        | ((with_reducible apply AWP_cond_t); (case hc => rfl); (case hb => (first | with_reducible assumption | with_reducible rfl | (simp only [hd]; done) | (simp; done) | (simp; omega))))
        | ((with_reducible apply AWP_cond_f); (case hc => rfl); (case hb => (first | with_reducible assumption | with_reducible rfl | (simp only [hd]; done) | (simp; done) | (simp; omega))))
        | ((with_reducible apply S_move); (case hx => rfl); (case hs => (simp only [aput, List.set_cons_succ, List.set_cons_zero]; rfl)))
        | ((with_reducible apply S_assign); (case hx => rfl); (case hs => (simp only [aput, List.set_cons_succ, List.set_cons_zero]; rfl)))
        | ((with_reducible apply AOPS_len_sl); (case hx => rfl); (case hs => (simp only [aput, List.set_cons_succ, List.set_cons_zero]; rfl)))
        | ((with_reducible apply AOPS_len_nils); (case hx => rfl); (case hs => (simp only [aput, List.set_cons_succ, List.set_cons_zero]; rfl)))
        | ((with_reducible apply AOPS_len_row); (case hx => rfl); (case hs => (simp only [aput, List.set_cons_succ, List.set_cons_zero]; rfl)))
        | ((with_reducible apply AOPS_len_str); (case hx => rfl); (case hs => (simp only [aput, List.set_cons_succ, List.set_cons_zero]; rfl)))
        | ((with_reducible apply S_len_isB); (case hx => rfl); (case hb => assumption); (case hs => (simp only [aput, List.set_cons_succ, List.set_cons_zero]; rfl)))
        | ((with_reducible apply S_inc8); (case hx => rfl); (case hy => rfl); (case hs => (simp only [aput, List.set_cons_succ, List.set_cons_zero]; rfl)))
        | ((with_reducible apply S_add); (case hx => rfl); (case hy => rfl); (case hb => (first | (constructor <;> omega) | omega | (simp; done) | (simp; omega))); (case hs => (simp only [aput, List.set_cons_succ, List.set_cons_zero]; rfl)))
        | ((with_reducible apply S_xor8); (case hx => rfl); (case hy => rfl); (case hs => (simp only [aput, List.set_cons_succ, List.set_cons_zero]; rfl)))
        | ((with_reducible apply S_bin); (case hx => rfl); (case hy => rfl); (case ho => rfl); (case hs => (simp only [aput, List.set_cons_succ, List.set_cons_zero]; rfl)))
        | ((with_reducible apply AOPS_str); (case hx => rfl); (case hy => rfl); (case ho => rfl); (case hs => (simp only [aput, List.set_cons_succ, List.set_cons_zero]; rfl)))
        | ((with_reducible apply S_load_all); (case hx => rfl); (case ho => rfl); (case hp => rfl); (case hs => (simp only [aput, List.set_cons_succ, List.set_cons_zero]; rfl)))
        | ((with_reducible apply S_load_agg); (case hx => rfl); (case ho => rfl); (case hp => rfl); (case hs => (simp only [aput, List.set_cons_succ, List.set_cons_zero]; rfl)))
        | ((with_reducible apply S_load_epr_sub); (case hx => rfl); (case hp => rfl); (case hs => (simp only [aput, List.set_cons_succ, List.set_cons_zero]; rfl)))
        | ((with_reducible apply S_load); (case hx => rfl); (case ho => rfl); (case hp => rfl); (case hs => (simp only [aput, List.set_cons_succ, List.set_cons_zero]; rfl)))
        | ((with_reducible apply S_load_epr); (case hx => rfl); (case hp => rfl); (case hs => (simp only [aput, List.set_cons_succ, List.set_cons_zero]; rfl)))
        | ((with_reducible apply S_load_byte); (case hx => rfl); (case hlt => (first | (constructor <;> omega) | omega | (simp; done) | (simp; omega))); (case hs => (simp only [aput, List.set_cons_succ, List.set_cons_zero]; rfl)))
        | ((with_reducible apply S_lit); (case hp => rfl); (case ho => (first | rfl | (simp only [List.all_cons, List.all_nil, Bool.and_true, Bool.and_self, bvA_one, sl_one, nils_one, str_one, hd]; done) | (simp [AV.one, hd]; done))); (case hl => rfl); (case hzl => rfl); (case hb => decide); (case hs => (simp only [aput, List.set_cons_succ, List.set_cons_zero]; rfl)))
        | ((with_reducible apply T_append_full); (case hx => rfl); (case hy => rfl); (case hS => (first | exact SrcOk_bytes inferInstance (by first | rfl | assumption | (simp; done) | omega) | exact SrcOk_sl inferInstance (by simp) (by first | rfl | (simp only [List.all_cons, List.all_nil, bvA_one, Bool.and_self]; done) | simp [AV.one, bvA_ones]) | exact SrcOk_nils inferInstance | exact SrcOk_str inferInstance | exact SrcOk_isB inferInstance (by assumption))); (case hl => (first | rfl | (simp; done))); (case hb => (first | (constructor <;> omega) | omega | (simp; done) | (simp; omega))); (case hs => (simp only [aput, List.set_cons_succ, List.set_cons_zero]; rfl)))
        | ((with_reducible apply T_append_nils); (case hx => rfl); (case hy => rfl); (case hS => (first | exact SrcOk_bytes inferInstance (by first | rfl | assumption | (simp; done) | omega) | exact SrcOk_sl inferInstance (by simp) (by first | rfl | (simp only [List.all_cons, List.all_nil, bvA_one, Bool.and_self]; done) | simp [AV.one, bvA_ones]) | exact SrcOk_nils inferInstance | exact SrcOk_str inferInstance | exact SrcOk_isB inferInstance (by assumption))); (case hb => (first | (constructor <;> omega) | omega | (simp; done) | (simp; omega))); (case hs => (simp only [aput, List.set_cons_succ, List.set_cons_zero]; rfl)))
        | ((with_reducible apply U_append_tok); (case hx => rfl); (case hy => rfl); (case htk => (first | rfl | (simp [alook]; done))); (case hS => (first | exact SrcOk_bytes inferInstance (by first | rfl | assumption | (simp; done) | omega) | exact SrcOk_sl inferInstance (by simp) (by first | rfl | (simp only [List.all_cons, List.all_nil, bvA_one, Bool.and_self]; done) | simp [AV.one, bvA_ones]) | exact SrcOk_nils inferInstance | exact SrcOk_str inferInstance | exact SrcOk_isB inferInstance (by assumption))); (case hb => (first | (constructor <;> omega) | omega | (simp; done) | (simp; omega))); (case ht => (first | rfl | (simp only [asetF, if_true]; rfl))); (case hs => (simp only [aput, List.set_cons_succ, List.set_cons_zero]; rfl)))
        | ((with_reducible apply S_indexAddr); (case hx => rfl); (case hy => rfl); (case hj => rfl); (case hi => (first | (constructor <;> omega) | omega | (simp; done) | (simp; omega))); (case ho => (first | (simp; rfl) | rfl)); (case hs => (simp only [aput, List.set_cons_succ, List.set_cons_zero]; rfl)))
        | ((with_reducible apply S_indexAddr_isB); (case hx => rfl); (case hb => assumption); (case hy => rfl); (case hj => rfl); (case hi => (first | (constructor <;> omega) | omega | (simp; done) | (simp; omega))); (case hs => (simp only [aput, List.set_cons_succ, List.set_cons_zero]; rfl)))
        | ((with_reducible apply AOPS_indexAddr); (case hx => rfl); (case hy => rfl); (case hi => (first | (constructor <;> omega) | omega | (simp; done) | (simp; omega))); (case hs => (simp only [aput, List.set_cons_succ, List.set_cons_zero]; rfl)))
        | ((with_reducible apply AOPS_indexAddr_row); (case hx => rfl); (case hy => rfl); (case hi => (first | (constructor <;> omega) | omega | (simp; done) | (simp; omega))); (case hs => (simp only [aput, List.set_cons_succ, List.set_cons_zero]; rfl)))
        | ((with_reducible apply AOPS_indexAddr_arr); (case hx => rfl); (case hy => rfl); (case hi => (first | (constructor <;> omega) | omega | (simp; done) | (simp; omega))); (case hs => (simp only [aput, List.set_cons_succ, List.set_cons_zero]; rfl)))
        | fail)
      refine ARet_ret rfl (.tmpO rfl .nil) ?_
      refine ⟨0, ?_, rfl⟩
      rw [aone, hcs, List.take_of_length_le (by rw [padK_length]; omega)]
end Go.Proofs.Ytdekfobcdmlelaa
