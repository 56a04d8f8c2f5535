/- policy: Insert's question whether two rows overlap; cells of members put in. -/
import Derived.Test.YtaffpkogcpkmjaaPoD
import Derived.Laws.Externs
namespace Go.Proofs.Ytaffpkogcpkmjaa
open Go.RowKit
set_option linter.unusedVariables false
set_option linter.unusedSimpArgs false
set_option maxRecDepth 10000
section
variable {base : Nat} {Fi : Int → Prop} {M : MM} {w w' : World}
variable {P : Program} {ops : Array Oper} {r : List Oper} {sl sl' : List AV} {σ σ' : ASt} {Q : Exit → List AV → ASt → Prop}
variable {dst : Option Tmp} {ty : TypeId} {pos : String} {after : Array Edge} {x y z : Operand} {objs : List (Int × List AV)} {toks : List (Int × Nat)} {next : Int}
/-- What was there before doesn't overlap with an object. -/
theorem S_overlaps {f : Operand} {g : FuncId} {t t2 e : TypeId} {rs ats : Array TypeId} {sz by_ : Nat} {own : AOwn} {cells full : List AV} {m : Nat} {id : Int} {off n c : Nat} (hf : aev sl f = .fn g [] []) (hx : aev sl x = .sl own cells m) (hy : aev sl y = .buf id off n c) (T : TySl P t e sz by_) (h0 : 0 < m) (hl : cells.length = m * sz) (ho : alook objs id = some full) (hp : 0 < full.length) (hc : ∀ (vs : Array Value) (w : World), (callFunc g vs).run P w = ((Extern.SlicesOverlaps.overlaps #[t, t2] rs vs).run P w).andThen fun v w' => .ok (.value v) w') (hs : aput sl dst (.bool false) = sl') (h : AOPS P ops r sl' ⟨objs, toks, next⟩ Q) : AOPS P ops (⟨dst, .call { callee := .value f, args := #[x, y], argTypes := ats }, ty, pos, after, none⟩ :: r) sl ⟨objs, toks, next⟩ Q :=
  AOPS_eff_ex rfl (fun base Fi M a w hr => by
    have h1 := ev1 hr.2.1 hf
    have h2 := ev1 hr.2.1 hx
    obtain ⟨b2, g0, h3, g1, g2⟩ := buf_inv (ev1 hr.2.1 hy)
    unfold Reps at h1 h2
    obtain ⟨fs, cs, h1, k2, k3⟩ := h1
    obtain ⟨A, c', vs, h2, _, _, _, q5, q6, _⟩ := h2
    have e1 : fs = #[] := Array.eq_empty_of_size_eq_zero (by have := k2.length; simpa using this)
    have e2 : cs = #[] := Array.eq_empty_of_size_eq_zero (by have := k3.length; simpa using this)
    subst e1 e2
    obtain ⟨b, o, rfl, hm⟩ := q5.resolve_left (by omega)
    obtain ⟨⟨_, hF⟩, b', us, e', k4, _, k5, k6⟩ := hr.2.2.obs id full ho
    rw [g0] at k4; cases k4
    have hsz := T.pos
    have hvl : 0 < vs.length := by have e3 := q6.length; have e4 := Nat.mul_pos h0 hsz; omega
    have hus : 0 < us.size := by have := k6.length; simp only [Array.length_toList] at this; omega
    obtain ⟨hcell, hst⟩ := hm 0 vs[0] (List.getElem?_eq_getElem hvl)
    have hne : b ≠ b2 := fun h => hF (hst.1 id (by rw [h]; exact g0))
    obtain ⟨i, z, hi, hz, hsz2, hby, hzs⟩ := T.info
    have hov := run_overlaps (P := P) (t2 := t2) (rs := rs) T.und hi (a := ⟨b, o, none⟩) (b := ⟨b2, off, none⟩) (la := m) (lb := n) (ca := c') (cb := c) (w := w) hne hcell k5 hus
    refine ⟨.bool false, _, .bool false, w, M, ?_, Reps_bool, hr.2.2, Stp.refl base Fi M w, by show AOPS P ops r (aput sl dst _) _ Q; rw [hs]; exact h⟩
    simp only [execOp, resolve, Deferred.ofValue, h1, h2, h3, Sem.run_bind, Sem.run_pure, Result.andThen_ok, invoke, List.map_toArray, List.map_cons, List.map_nil, hc]
    simp [hov])
end
theorem mb_ins (ms : List Mb) (i : Nat) (hi : i ≤ ms.length) (w r : Int) (rest : List AV) : (mbCs (ms.take i ++ ⟨w, 0⟩ :: ms.drop i) ++ rest).set (i * 2 + 1) (.int .i64 r) = mbCs (ms.take i ++ ⟨w, r⟩ :: ms.drop i) ++ rest := by
  have hel : (ms.take i ++ (⟨w, 0⟩ : Mb) :: ms.drop i)[i]? = some ⟨w, 0⟩ := by
    have h2 : (ms.take i).length = i := by rw [List.length_take]; omega
    rw [List.getElem?_append_right (by omega), h2, Nat.sub_self]
    rfl
  rw [mb_set hel rest r]
  have h2 : (ms.take i).length = i := by rw [List.length_take]; omega
  congr 3
  · rw [List.take_append_of_le_length (by omega), List.take_of_length_le (by omega)]
  · rw [List.drop_append, List.drop_of_length_le (by omega), h2, show i + 1 - i = 1 by omega]
    rfl
theorem mb_insC (ms : List Mb) (i : Nat) (w : Int) : mbCs (ms.take i ++ ⟨w, 0⟩ :: ms.drop i) = mbCs (ms.take i) ++ ([.int .i64 w, .int .i64 0] ++ mbCs (ms.drop i)) := by
  rw [mbCs_app]; rfl
/-- Put in at the end, where there is room. -/
theorem mb_endR (ms : List Mb) (w : Int) (j : Nat) (hj : 0 < j) : ∃ R, R.length = (j - 1) * 2 ∧ acut (mbCs ms ++ anys (j * 2)) (0 + ms.length * 2) [.int .i64 w, .int .i64 0] = mbCs (ms.take ms.length ++ ⟨w, 0⟩ :: ms.drop ms.length) ++ R := by
  have hl := mbCs_len ms
  refine ⟨(anys (j * 2)).drop 2, by rw [List.length_drop, anys_len]; omega, ?_⟩
  rw [acut_tail (by omega), mb_insC, List.take_length, List.drop_length, hl, Nat.zero_add, Nat.sub_self]
  unfold acut
  simp [mbCs]
/-- Put in, into a new row. -/
theorem acut_two (A X V : List AV) (u v : AV) (o : Nat) (hA : A.length = o) : acut (acut (A ++ X) o [u, v]) (o + 2) V = A ++ ([u, v] ++ V) ++ X.drop (2 + V.length) := by
  rw [acut_tail (by omega), hA, Nat.sub_self]
  have h1 : acut X 0 [u, v] = [u, v] ++ X.drop 2 := by unfold acut; simp
  rw [h1, acut_tail (by omega), hA, show o + 2 - o = 2 by omega, acut_tail (by simp)]
  simp only [List.length_cons, List.length_nil, Nat.reduceAdd, Nat.sub_self]
  unfold acut
  simp only [List.take_zero, List.nil_append, Nat.zero_add, List.drop_drop, List.append_assoc]
/-- Put in, on the spot. -/
theorem acut_two2 (A X V : List AV) (u v : AV) (o : Nat) (hA : A.length = o) (hX : 2 ≤ X.length) : acut (acut (A ++ X) (o + 2) V) o [u, v] = A ++ ([u, v] ++ V) ++ X.drop (2 + V.length) := by
  rw [acut_tail (by omega), hA, show o + 2 - o = 2 by omega, acut_tail (by omega), hA, Nat.sub_self]
  unfold acut
  simp only [List.take_zero, List.nil_append, Nat.zero_add, List.append_assoc]
  congr 2
  rw [List.drop_append, List.drop_of_length_le (by simp only [List.length_cons, List.length_nil, List.length_take]; omega), List.length_take]
  simp only [List.length_cons, List.length_nil, Nat.reduceAdd, List.nil_append]
  rw [Nat.min_eq_left hX, Nat.sub_self, List.drop_zero]
theorem mb_new (ms : List Mb) (i : Nat) (hi : i ≤ ms.length) (w : Int) (X : List AV) : acut (acut (mbCs (ms.take i) ++ X) (i * 2) [.int .i64 w, .int .i64 0]) ((i + 1) * 2) (mbCs (ms.drop i)) = mbCs (ms.take i ++ ⟨w, 0⟩ :: ms.drop i) ++ X.drop (2 + (ms.length - i) * 2) := by
  have h2 : (mbCs (ms.take i)).length = i * 2 := by rw [mbCs_len, List.length_take]; omega
  rw [show (i + 1) * 2 = i * 2 + 2 by omega, acut_two _ _ _ _ _ _ h2, mb_insC, mbCs_len, List.length_drop]
theorem mb_spot (ms : List Mb) (i : Nat) (hi : i < ms.length) (w : Int) (X : List AV) : acut (acut (mbCs ms ++ X) ((i + 1) * 2) (mbCs (ms.drop i))) (i * 2) [.int .i64 w, .int .i64 0] = mbCs (ms.take i ++ ⟨w, 0⟩ :: ms.drop i) ++ X.drop 2 := by
  have h2 : (mbCs (ms.take i)).length = i * 2 := by rw [mbCs_len, List.length_take]; omega
  have h3 : mbCs ms = mbCs (ms.take i) ++ mbCs (ms.drop i) := by rw [← mbCs_app, List.take_append_drop]
  have h4 : (mbCs (ms.drop i)).length = (ms.length - i) * 2 := by rw [mbCs_len, List.length_drop]
  rw [show (i + 1) * 2 = i * 2 + 2 by omega, h3, List.append_assoc, acut_two2 _ _ _ _ _ _ h2 (by rw [List.length_append]; omega), mb_insC]
  congr 1
  rw [List.drop_append, List.drop_of_length_le (by omega), List.nil_append, show 2 + (mbCs (ms.drop i)).length - (mbCs (ms.drop i)).length = 2 by omega]
end Go.Proofs.Ytaffpkogcpkmjaa
