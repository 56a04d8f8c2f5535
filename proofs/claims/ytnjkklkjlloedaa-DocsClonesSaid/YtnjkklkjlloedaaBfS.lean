/- The abstract machine: []byte(s) as a buffer that may be written. -/
import Derived.Test.YtnjkklkjlloedaaBuf3
import Derived.Test.YtnjkklkjlloedaaRng
namespace Go.Proofs.Ytnjkklkjlloedaa
open Go.RowKit
set_option linter.unusedVariables false
set_option linter.unusedSimpArgs false
variable {base : Nat} {Fi : Int → Prop} {M M' : MM} {w w' : World}
variable {P : Program} {ops : Array Oper} {r : List Oper} {sl sl' : List AV} {σ σ' : ASt} {Q : Exit → List AV → ASt → Prop}
variable {dst : Option Tmp} {ty : TypeId} {pos : String} {after : Array Edge} {x y z : Operand} {objs : List (Int × List AV)} {toks toks' : List (Int × Tq)} {next : Int}
theorem St.newObjB (S : St base Fi M w σ) {cells : List AV} {vs : Array Value} (h : RepsL M w cells vs.toList) (e : TypeId) (f : Bool) : St base Fi (M.obj σ.next w.heap.size) (w.alloc (.cells vs e (nfz vs.size f))) ⟨(σ.next, cells) :: σ.objs, σ.toks, σ.next + 1⟩ := by
  have T := Stp.newObj S (.cells vs e (nfz vs.size f))
  have hold : ∀ q, q < w.heap.size → (w.alloc (.cells vs e (nfz vs.size f))).heap[q]? = w.heap[q]? := fun q hq => Below.heap_alloc w _ q hq
  have hsz : (w.alloc (.cells vs e (nfz vs.size f))).heap.size = w.heap.size + 1 := by simp
  have N := St.newObj S (cells := []) (vs := #[]) RepsL.nil 0
  refine ⟨by have := S.base_le; omega, fun id cs hl => ?_, fun id top hl => ?_, fun i s ks hl => ⟨(S.mps i s ks hl).1, (S.mps i s ks hl).2.stp T fun q o h1 h2 _ => by rw [hold q (S.obsz i q h1)]; exact h2⟩, N.inj, N.dis, N.tinj, fun i q h => by rw [hsz]; have := N.obsz i q h; simpa using this, fun i Tk q e ce h1 h2 => by rw [hsz]; have := N.tksz i Tk q e ce h1 h2; simpa using this, N.fresh⟩
  · simp only [alook] at hl
    split at hl
    · rename_i he
      subst he
      cases hl
      exact ⟨(S.fresh _ (Int.le_refl _)).2.2, w.heap.size, vs, (e, f), by simp [MM.obj], S.base_le, heap_alloc_new w _, RepsL.stp T _ _ h⟩
    · obtain ⟨h1, b, us, e', h2, h3, h4, h5⟩ := S.obs id cs hl
      exact ⟨h1, b, us, e', T.ob _ _ h2, h3, by rw [hold b (S.obsz id b h2)]; exact h4, RepsL.stp T _ _ h5⟩
  · obtain ⟨h1, Tk, h2, h3, h4⟩ := S.tks id top hl
    refine ⟨h1, Tk, h2, h3, fun b e2 ce hb => ?_⟩
    obtain ⟨h5, h6⟩ := h4 b e2 ce hb
    exact ⟨h5, h6.heap (hold b (S.tksz id Tk b e2 ce h2 hb))⟩
theorem B_bytes_obj {src t e : TypeId} {by_ : Nat} {s : List UInt8} (hx : aev sl x = .str s) [S0 : TyStr P src] [T : TySl P t e 1 by_] [B : TyInt P e .u8] (h : ∀ k, AOPS P ops r (aput sl dst (.buf next 0 s.length (s.length + k))) ⟨(next, s.map bvA ++ anys k) :: objs, toks, next + 1⟩ Q) : AOPS P ops (⟨dst, .convert src t x, ty, pos, after, none⟩ :: r) sl ⟨objs, toks, next⟩ Q :=
  AOPS_eff_ex rfl (fun base Fi M a w hr => by
    have h1 := ev1 hr.2.1 hx
    unfold Reps at h1
    obtain ⟨h1, h2⟩ := h1
    have h3 := run_bytes_of_string (P := P) w src t e ⟨s.toArray⟩ S0.und T.und B.und
    rw [ba_size] at h3
    have hge := grownCap_ge w s.length 0 e
    have hcm : grownCap w s.length 0 e ≤ maxLen := grownCap_le_maxLen w s.length 0 e h2
    generalize hc : grownCap w s.length 0 e = cap at h3 hge hcm
    have S1 := (Grew.drew w).st hr.2.2
    have T1 := (Grew.drew w).stp hr.2.2
    have hbl : (bytesRow ⟨s.toArray⟩ cap).size = cap := by
      simp only [bytesRow, Array.size_append, Array.size_map, List.size_toArray, Array.size_replicate, ByteArray.size]
      omega
    have hR : RepsL M w.drew (s.map bvA ++ anys (cap - s.length)) (bytesRow ⟨s.toArray⟩ cap).toList := by
      have e1 : (bytesRow ⟨s.toArray⟩ cap).toList = s.map bv ++ (List.replicate (cap - s.length) (.int .u8 0)) := by
        rw [bytesRow, Array.toList_append, Array.toList_map, Array.toList_replicate, ba_size]
        rfl
      rw [e1]
      exact RepsL.append (bvA_reps s) (anys_reps _ _ (by simp))
    have N := St.newObjB S1 hR e true
    have NT := Stp.newObj S1 (.cells (bytesRow ⟨s.toArray⟩ cap) e (nfz (bytesRow ⟨s.toArray⟩ cap).size true))
    refine ⟨.buf next 0 s.length (s.length + (cap - s.length)), _, .slice (some ⟨w.heap.size, 0, none⟩) s.length cap, _, M.obj next w.heap.size, ?_, ?_, N, T1.trans NT, h (cap - s.length)⟩
    · simp only [execOp, h1, Sem.run_bind, h3, Result.andThen_ok, Sem.run_pure]
      rfl
    · unfold Reps
      refine ⟨w.heap.size, by simp [MM.obj], ?_, by omega, by omega⟩
      rw [Nat.add_sub_cancel' hge])
end Go.Proofs.Ytnjkklkjlloedaa
