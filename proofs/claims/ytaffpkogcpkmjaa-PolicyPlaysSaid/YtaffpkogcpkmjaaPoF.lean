/- policy: Apply's contracts. -/
import Derived.Test.YtaffpkogcpkmjaaPoE
namespace Go.Proofs.Ytaffpkogcpkmjaa
open Go.RowKit
set_option linter.unusedVariables false
set_option linter.unusedSimpArgs false
set_option maxRecDepth 10000
/-- What Apply yields. -/
def apP (p : Po) (e : En) : Po := if mayN p e = 0 then poApp p e else ⟨0, 0, []⟩
abbrev apR (p : Po) (e : En) : AV := .tup [poA (apP p e), .int .i64 (mayN p e)]
theorem apply_buf (p : Po) (e : En) (hm : p.mem.length ≤ 1000) (he : e.Mid) (hw : e.wraps.length ≤ 1000) (hmay : mayN p e = 0) : ABuf Try.prog 30 [poA p, enA e] (poR (poApp p e)) (mbCs (poApp p e).mem) (poApp p e).mem.length 2 :=
  ABuf.mkr (by simp only [AV.shutL, poA_shut, enA_shut, Bool.and_self]) (mbCs_shut _) (poR_R _) (apply_raw p e hm he hw hmay)
set_option maxHeartbeats 4000000 in
theorem apply_val (p : Po) (e : En) (hm : p.mem.length ≤ 1000) (he : e.Mid) (hw : e.wraps.length ≤ 1000) : AVal Try.prog 30 [poA p, enA e] (apR p e) := by
  unfold apR apP
  by_cases h : mayN p e = 0
  · rw [if_pos h, h]
    refine AVal.mkbuf (R := poR (poApp p e)) (L := (poApp p e).mem.length) (cells := mbCs (poApp p e).mem) (sz := 2) (by simp only [AV.shutL, poA_shut, enA_shut, Bool.and_self]) (by unfold AV.shut; simp only [AV.shutL, poA_shut, AV.shut, mbCs_shut, Bool.and_self]) ?_ ?_ (apply_raw p e hm he hw h)
    · intro h0
      have := mbCs_len (poApp p e).mem
      rw [h0] at this
      exact List.eq_nil_of_length_eq_zero this
    · intro id j
      simp [poR, AV.sub, AV.subL, AV.wk, AV.wkL, mbCs_wk]
  · rw [if_neg h]
    refine AVal.mkw (by simp only [AV.shutL, poA_shut, enA_shut, Bool.and_self]) (by simp [AV.shut, AV.shutL, mbCs]) ?_
    refine ACalls_body Try.func30 rfl rfl ?_
    simp only [Try.ntmps30, List.length_cons, List.length_nil, Nat.reduceAdd, Nat.reduceSub, List.replicate_succ, List.replicate_zero, List.cons_append, List.nil_append]
    have hM := may_val p e hm he hw
    refine Run ?_ trivial trivial trivial trivial trivial trivial trivial trivial trivial trivial trivial trivial
    simp [aone, AV.wk, AV.wkL, mbCs]
end Go.Proofs.Ytaffpkogcpkmjaa
