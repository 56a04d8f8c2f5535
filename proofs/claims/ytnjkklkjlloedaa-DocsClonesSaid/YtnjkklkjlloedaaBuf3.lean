/- The abstract machine: buffers: copy, clear, append of zeros, comparison with nil; what stands behind the end. -/
import Derived.Test.YtnjkklkjlloedaaBuf2
namespace Go.Proofs.Ytnjkklkjlloedaa
open Go.RowKit
set_option linter.unusedVariables false
set_option linter.unusedSimpArgs false
variable {base : Nat} {Fi : Int → Prop} {M : MM} {w w' : World}
variable {P : Program} {ops : Array Oper} {r : List Oper} {sl sl' : List AV} {σ σ' : ASt} {Q : Exit → List AV → ASt → Prop}
variable {dst : Option Tmp} {ty : TypeId} {pos : String} {after : Array Edge} {x y z : Operand} {objs : List (Int × List AV)} {toks : List (Int × Tq)} {next : Int}
theorem exec_copy {a : Act} {t tx : TypeId} {u v xv : Value} {w w' : World} (hx : a.eval x = u) (hy : a.eval y = xv) (h : (Builtin.copy_ #[t, tx] ty #[u, xv]).run P w = .ok v w') : (execOp a.eval ⟨dst, .call { callee := .builtin .copy, args := #[x, y], argTypes := #[t, tx] }, ty, pos, after, none⟩).run P w = .ok (.value v) w' := by
  simp only [execOp, resolve, invoke, builtin, Sem.run_bind, Sem.run_pure, Result.andThen_ok, List.map_toArray, List.map_cons, List.map_nil, hx, hy, h]
/-- Cells written into an object. -/
theorem put_ok (S : St base Fi M w σ) {id : Int} {b : Nat} {full cells2 cells' : List AV} {objs' : List (Int × List AV)} {news : List Value} {o : Nat} (ho : alook σ.objs id = some full) (g0 : M.ob id = some b) (h4 : RepsL M w cells2 news) (h1 : ∀ v ∈ news, v.oneCell' = true) (hl : o + cells2.length ≤ full.length) (hc : acut full o cells2 = cells') (hob : asetF σ.objs id cells' = some objs') :
    ∃ w', (storeCells ⟨b, o, none⟩ news).run P w = .ok () w' ∧ St base Fi M w' ⟨objs', σ.toks, σ.next⟩ ∧ Stp base Fi M w M w' := by
  obtain ⟨hF, b', cur, e', k2, hbase, k4, k5⟩ := S.obs id full ho
  rw [g0] at k2; cases k2
  have hvl := k5.length
  simp only [Array.length_toList] at hvl
  have hnl := h4.length
  have hst := run_storeCells_free P b o e'.1 _ news 0 cur w k4 (fun j hj => nfz_free _ _ j hj) (by omega) h1
  simp only [Nat.add_zero] at hst
  have hR : RepsL M w cells' (cur.toList.take o ++ news ++ cur.toList.drop (o + news.length)) := by
    rw [← hc]
    unfold acut
    rw [← h4.length]
    exact ((k5.take _).append h4).append (k5.drop _)
  have N := St.store S ho g0 hbase k4 (cells' := cells') (vs := (cur.toList.take o ++ news ++ cur.toList.drop (o + news.length)).toArray) (by simp only [List.size_toArray, List.length_append, List.length_take, List.length_drop, Array.length_toList]; omega) hR
  have NT := Stp.store S g0 hF.1 hF.2 hbase k4 (cur.toList.take o ++ news ++ cur.toList.drop (o + news.length)).toArray
  rw [asetF_ok hob] at N
  exact ⟨_, hst, N, NT⟩
/-- copy into a buffer, of what is not longer. -/
theorem B_copy {t e tx : TypeId} {sz by_ : Nat} {id : Int} {off n c : Nat} {full cells2 cells' : List AV} {m : Nat} {av : AV} {objs' : List (Int × List AV)} (hx : aev sl x = .buf id off n c) (hy : aevo sl y = some av) [T : TySl P t e sz by_] (ho : alook objs id = some full) (hS : SrcS P sz tx av cells2 m ⟨objs, toks, next⟩) (hg : m ≤ n) (hl : off + cells2.length ≤ full.length) (hc : acut full off cells2 = cells') (hob : asetF objs id cells' = some objs') (hs : aput sl dst (.int .i64 m) = sl') (h : AOPS P ops r sl' ⟨objs', toks, next⟩ Q) : AOPS P ops (⟨dst, .call { callee := .builtin .copy, args := #[x, y], argTypes := #[t, tx] }, ty, pos, after, none⟩ :: r) sl ⟨objs, toks, next⟩ Q :=
  AOPS_eff_ex rfl (fun base Fi M a w hr => by
    obtain ⟨b, g0, h1, g1, g2⟩ := buf_inv (ev1 hr.2.1 hx)
    have h2 := ev1 hr.2.1 (aevo_eq hy)
    obtain ⟨news, h3, h4⟩ := hS _ _ _ _ _ hr.2.2 h2
    obtain ⟨i, z, hi, hz, hsz, hby, hzs⟩ := T.info
    subst hsz
    obtain ⟨w', hst, N, NT⟩ := put_ok (P := P) hr.2.2 ho g0 h4 h3.one hl hc hob
    have hrun : (Builtin.copy_ #[t, tx] ty #[.slice (some ⟨b, off, none⟩) n c, a.eval y]).run P w = .ok (goInt m) w' := by
      simp [Builtin.copy_, run_underlying T.und, sizeOf, typeInfo, hi, h3.len, Nat.min_eq_left hg, h3.cells, hst]
    refine ⟨.int .i64 m, _, _, _, _, exec_copy h1 rfl hrun, ?_, N, NT, by show AOPS P ops r (aput sl dst _) _ Q; rw [hs]; exact h⟩
    unfold Reps; rfl)
/-- copy out of a buffer into a buffer (into itself, too). -/
theorem B_copy_buf {t e tx e2 : TypeId} {sz by_ by2 : Nat} {id id2 : Int} {off n c off2 n2 c2 q : Nat} {full full2 cells2 cells' : List AV} {objs' : List (Int × List AV)} (hx : aev sl x = .buf id off n c) (hy : aev sl y = .buf id2 off2 n2 c2) [T : TySl P t e sz by_] [T2 : TySl P tx e2 sz by2] (ho : alook objs id = some full) (ho2 : alook objs id2 = some full2) (hq : Nat.min n2 n = q) (hc2 : (full2.drop off2).take (q * sz) = cells2) (hl2 : off2 + q * sz ≤ full2.length) (h1 : cells2.all AV.one = true) (hl : off + cells2.length ≤ full.length) (hc : acut full off cells2 = cells') (hob : asetF objs id cells' = some objs') (hs : aput sl dst (.int .i64 q) = sl') (h : AOPS P ops r sl' ⟨objs', toks, next⟩ Q) : AOPS P ops (⟨dst, .call { callee := .builtin .copy, args := #[x, y], argTypes := #[t, tx] }, ty, pos, after, none⟩ :: r) sl ⟨objs, toks, next⟩ Q :=
  AOPS_eff_ex rfl (fun base Fi M a w hr => by
    obtain ⟨b, g0, k1, g1, g2⟩ := buf_inv (ev1 hr.2.1 hx)
    obtain ⟨b2, p0, k2, p1, p2⟩ := buf_inv (ev1 hr.2.1 hy)
    obtain ⟨_, b', vs, e', k3, _, k4, k5⟩ := hr.2.2.obs id2 full2 ho2
    rw [p0] at k3; cases k3
    have hvl := k5.length
    simp only [Array.length_toList] at hvl
    have h6 : RepsL M w cells2 ((vs.toList.drop off2).take (q * sz)) := by rw [← hc2]; exact (k5.drop off2).take _
    have hnl : ((vs.toList.drop off2).take (q * sz)).length = q * sz := by
      simp only [List.length_take, List.length_drop, Array.length_toList]; omega
    have hfc : (Builtin.firstCells sz q (.slice (some ⟨b2, off2, none⟩) n2 c2)).run P w = .ok ((vs.toList.drop off2).take (q * sz)).toArray w := by
      refine run_firstCells_some w sz q ⟨b2, off2, none⟩ n2 c2 _ hnl (fun j u hu => ?_)
      rw [addr_add, cell_of_row w _ _ _ _ _ k4]
      rw [List.getElem?_take] at hu
      split at hu
      · rw [List.getElem?_drop] at hu; simpa using hu
      · cases hu
    obtain ⟨i, z, hi, hz, hsz, hby, hzs⟩ := T.info
    subst hsz
    obtain ⟨w', hst, N, NT⟩ := put_ok (P := P) hr.2.2 ho g0 h6 (h6.ones h1) hl hc hob
    have hrun : (Builtin.copy_ #[t, tx] ty #[.slice (some ⟨b, off, none⟩) n c, .slice (some ⟨b2, off2, none⟩) n2 c2]).run P w = .ok (goInt q) w' := by
      simp [Builtin.copy_, run_underlying T.und, Builtin.lenOf, sizeOf, typeInfo, hi, hq, hfc, hst]
    refine ⟨.int .i64 q, _, _, _, _, exec_copy k1 k2 hrun, ?_, N, NT, by show AOPS P ops r (aput sl dst _) _ Q; rw [hs]; exact h⟩
    unfold Reps; rfl)
/-- clear of a buffer: nobody asks what stands there. -/
theorem B_clear {t e : TypeId} {sz by_ : Nat} {agg : Bool} {zs : List Value} {id : Int} {off n c : Nat} {full cells' : List AV} {objs' : List (Int × List AV)} (hx : aev sl x = .buf id off n c) [T : TySl P t e sz by_] [Z : TyZero P e agg zs] (hz1 : zs.all Value.oneCell' = true) (ho : alook objs id = some full) (h0 : 0 < n) (hl : off + n * sz ≤ full.length) (hc : acut full off (anys (n * sz)) = cells') (hob : asetF objs id cells' = some objs') (hs : aput sl dst .any = sl') (h : AOPS P ops r sl' ⟨objs', toks, next⟩ Q) : AOPS P ops (⟨dst, .call { callee := .builtin .clear, args := #[x], argTypes := #[t] }, ty, pos, after, none⟩ :: r) sl ⟨objs, toks, next⟩ Q :=
  AOPS_eff_ex rfl (fun base Fi M a w hr => by
    obtain ⟨b, g0, k1, g1, g2⟩ := buf_inv (ev1 hr.2.1 hx)
    obtain ⟨i, z, hi, hz, hsz, hby, hzs⟩ := T.info
    obtain ⟨i', z', hi', hz', hzz, _⟩ := Z.zero
    rw [hi] at hi'; cases hi'
    rw [hz] at hz'; cases hz'
    subst hsz
    have hzr : ∀ w : World, (zeroValue e).run P w = .ok z w := fun w => by simp [zeroValue, typeInfo, hi, hz]
    have hlen : (Builtin.zeroCells z.cells n).toList.length = n * i.size := by
      rw [Array.length_toList, size_zeroCells, hzs]
    have h6 : RepsL M w (anys (n * i.size)) (Builtin.zeroCells z.cells n).toList := anys_reps _ _ hlen
    have hone : ∀ v ∈ (Builtin.zeroCells z.cells n).toList, v.oneCell' = true := by
      intro v hv
      simp only [Builtin.zeroCells, Array.toList_map, Array.toList_range, List.mem_map, List.mem_range] at hv
      obtain ⟨k, hk, rfl⟩ := hv
      have hpos := T.pos
      have hlt : k % z.cells.size < z.cells.size := Nat.mod_lt _ (by omega)
      rw [getElem!_pos z.cells _ hlt]
      have hm : z.cells[k % z.cells.size] ∈ zs := by rw [← hzz]; simp
      exact List.all_eq_true.1 hz1 _ hm
    obtain ⟨w', hst, N, NT⟩ := put_ok (P := P) hr.2.2 ho g0 h6 hone (by rw [anys_len]; exact hl) hc hob
    refine ⟨.any, _, .tuple #[], w', _, ?_, by unfold Reps; trivial, N, NT, by show AOPS P ops r (aput sl dst _) _ Q; rw [hs]; exact h⟩
    obtain ⟨n, rfl⟩ : ∃ k, n = k + 1 := ⟨n - 1, by omega⟩
    simp [execOp, k1, resolve, invoke, builtin, Builtin.clear_, run_underlying T.und, hzr, hst])
/-- append of so many zeros onto a buffer without room. -/
theorem B_append_zeros {t e tx : TypeId} {sz by_ : Nat} {k kt : IntKind} {id : Int} {off n c : Nat} {full cells : List AV} {m : Nat} {i0 : Int} (hx : aev sl x = .buf id off n c) (hy : aev sl y = .int k i0) (hi0 : i0 = (m : Int)) [T : TySl P t e sz by_] [TI : TyInt P tx kt] (ho : alook objs id = some full) (hm : 0 < m) (hg : c < n + m) (hc : (full.drop off).take (n * sz) = cells) (hl : off + n * sz ≤ full.length) (hb : (n + m) * by_ ≤ 140737488355328 ∧ n + m ≤ 1000000000000) (h : ∀ j, AOPS P ops r (aput sl dst (.buf next 0 (n + m) (n + m + j))) ⟨(next, cells ++ anys (m * sz) ++ anys (j * sz)) :: objs, toks, next + 1⟩ Q) : AOPS P ops (⟨dst, .call { callee := .builtin .append, args := #[x, y], argTypes := #[t, tx] }, ty, pos, after, none⟩ :: r) sl ⟨objs, toks, next⟩ Q :=
  AOPS_eff_ex rfl (fun base Fi M a w hr => by
    subst hi0
    obtain ⟨b, g0, h1, g1, g2⟩ := buf_inv (ev1 hr.2.1 hx)
    have h2 := ev1 hr.2.1 hy
    unfold Reps at h2
    obtain ⟨_, b', vs, e', k2, _, k4, k5⟩ := hr.2.2.obs id full ho
    rw [g0] at k2; cases k2
    have h6 : RepsL M w cells ((vs.toList.drop off).take (n * sz)) := by rw [← hc]; exact (k5.drop off).take _
    have hvl := k5.length
    simp only [Array.length_toList] at hvl
    have hlen : ((vs.toList.drop off).take (n * sz)).length = n * sz := by
      simp only [List.length_take, List.length_drop, Array.length_toList]; omega
    have hold : (Builtin.firstCells sz n (.slice (some ⟨b, off, none⟩) n c)).run P w.drew = .ok ((vs.toList.drop off).take (n * sz)).toArray w.drew := by
      refine run_firstCells_some w.drew sz n ⟨b, off, none⟩ n c _ hlen (fun j u hu => ?_)
      have : w.drew.cell? ((⟨b, off, none⟩ : Addr).add j) = w.cell? ((⟨b, off, none⟩ : Addr).add j) := rfl
      rw [this, addr_add, cell_of_row w _ _ _ _ _ k4]
      rw [List.getElem?_take] at hu
      split at hu
      · rw [List.getElem?_drop] at hu; simpa using hu
      · cases hu
    obtain ⟨i, z, hi, hz, hsz, hby, hzs⟩ := T.info
    subst hsz hby
    have hpos := T.pos
    have hfit := growslice_fits (need := n + m) (old := c) (bytes := i.bytes) hg hb.1
    have hge := grownCap_ge w (n + m) c e
    have hcm : grownCap w (n + m) c e ≤ maxLen := grownCap_le_maxLen w (n + m) c e (by simp only [maxLen]; omega)
    have hw : IntKind.i64.wrap (m : Int) = m := by rw [IntKind.wrap_i64]; omega
    have hneg : ¬ ((m : Int) < 0) := by omega
    have hmb : m * i.bytes ≤ 140737488355328 := Nat.le_trans (Nat.mul_le_mul_right _ (Nat.le_add_left m n)) hb.1
    have hbig : ¬ (281474976710656 < (m : Int) * (i.bytes : Int)) := by rw [← Int.natCast_mul]; omega
    have h63' : ¬ (9223372036854775807 < ((n : Int) + (m : Int))) := by omega
    have hn : ¬ (n + m ≤ c) := by omega
    have h48' : ¬ (281474976710656 < Builtin.nextslicecap (n + m) c * i.bytes) := by omega
    have hms : ¬ (m * i.size = 0) := by have := Nat.mul_pos hm hpos; omega
    have hrun : (Builtin.append_ #[t, tx] ty #[.slice (some ⟨b, off, none⟩) n c, .int k m]).run P w =
      .ok (.slice (some ⟨w.heap.size, 0, none⟩) (n + m) (grownCap w (n + m) c e))
        (w.drew.alloc (.cells (((vs.toList.drop off).take (n * i.size)).toArray ++ Builtin.zeroCells z.cells m ++ Builtin.zeroCells z.cells (grownCap w (n + m) c e - (n + m))) e)) := by
      simp [Builtin.append_, run_underlying T.und, run_underlying TI.und, sizeOf, typeInfo, zeroValue, hi, hz, asInt, asIntOf, hw, hneg, hbig, hn, h63', h48', Question.forced, hold, newRow, grownCap, hms, Array.append_assoc]
    generalize grownCap w (n + m) c e = cap at hrun hge hcm
    obtain ⟨j, rfl⟩ : ∃ j, cap = n + m + j := ⟨cap - (n + m), by omega⟩
    rw [Nat.add_sub_cancel_left] at hrun
    have G := drewG w
    have S1 := G.st hr.2.2
    have T1 := G.stp hr.2.2
    have hR : RepsL M w.drew (cells ++ anys (m * i.size) ++ anys (j * i.size)) (((vs.toList.drop off).take (n * i.size)).toArray ++ Builtin.zeroCells z.cells m ++ Builtin.zeroCells z.cells j).toList := by
      rw [Array.toList_append, Array.toList_append]
      exact ((RepsL.stp T1 _ _ h6).append (anys_reps _ _ (by simp [size_zeroCells, hzs]))).append (anys_reps _ _ (by simp [size_zeroCells, hzs]))
    have N := St.newObj S1 hR e
    have NT := Stp.newObj S1 (.cells (((vs.toList.drop off).take (n * i.size)).toArray ++ Builtin.zeroCells z.cells m ++ Builtin.zeroCells z.cells j) e)
    refine ⟨_, _, _, _, _, exec_append h1 h2 hrun, ?_, N, T1.trans NT, h j⟩
    unfold Reps
    exact ⟨w.heap.size, by simp [MM.obj], rfl, by omega, hcm⟩)
/-! ### x == nil -/
theorem run_eqnil {t e : TypeId} (ht : P.underlying t = some (.slice e)) (d : Nat) (a : Addr) (n c : Nat) (w : World) : (Op.equalIn (d + 1) t (.slice (some a) n c) (.slice none 0 0)).run P w = .ok false w := by
  simp [Op.equalIn, run_underlying ht]
theorem binOp_eql_nil (t : TypeId) (A : Option Addr) (n c : Nat) : binOp .eql t (.slice A n c) (.slice none 0 0) = (do pure (.bool (← Op.equal t (.slice A n c) (.slice none 0 0)))) := rfl
theorem eqGuard_slice (op : BinOp) (t : TypeId) (A : Option Addr) (n c : Nat) (v : Value) : eqGuard op t x y (.slice A n c) v = pure () := by cases op <;> rfl
theorem S_eqnil_sl {t e : TypeId} {sz by_ : Nat} {own : AOwn} {cells : List AV} {n : Nat} {t' : TypeId} (hx : aev sl x = .sl own cells n) (hy : aev sl y = .nils) [T : TySl P t e sz by_] (h0 : 0 < n) (hs : aput sl dst (.bool false) = sl') (h : AOPS P ops r sl' σ Q) : AOPS P ops (⟨dst, .binOp .eql t x y t', ty, pos, after, none⟩ :: r) sl σ Q :=
  AOPS_pure (av := .bool false) rfl (fun M a w hr => by
    have h1 := ev1 hr hx
    have h2 := ev1 hr hy
    unfold Reps at h1 h2
    obtain ⟨A, c, vs, h1, h3, h4, h5, h6, h7, _⟩ := h1
    obtain ⟨b, o, rfl, hm⟩ := h6.resolve_left (by omega)
    have h8 : ∀ w, (Op.equal t (.slice (some ⟨b, o, none⟩) n c) (.slice none 0 0)).run P w = .ok false w := fun w => run_eqnil T.und 9999 _ n c w
    exact ⟨.bool false, fun w' L => by simp [execOp, h1, h2, eqGuard_slice, binOp_eql_nil, h8], Reps_bool⟩) hs h
theorem S_eqnil_buf {t e : TypeId} {sz by_ : Nat} {id : Int} {off n c : Nat} {t' : TypeId} (hx : aev sl x = .buf id off n c) (hy : aev sl y = .nils) [T : TySl P t e sz by_] (hs : aput sl dst (.bool false) = sl') (h : AOPS P ops r sl' σ Q) : AOPS P ops (⟨dst, .binOp .eql t x y t', ty, pos, after, none⟩ :: r) sl σ Q :=
  AOPS_pure (av := .bool false) rfl (fun M a w hr => by
    obtain ⟨b, h0, h1, _⟩ := buf_inv (ev1 hr hx)
    have h2 := ev1 hr hy
    unfold Reps at h2
    have h8 : ∀ w, (Op.equal t (.slice (some ⟨b, off, none⟩) n c) (.slice none 0 0)).run P w = .ok false w := fun w => run_eqnil T.und 9999 _ n c w
    exact ⟨.bool false, fun w' L => by simp [execOp, h1, h2, eqGuard_slice, binOp_eql_nil, h8], Reps_bool⟩) hs h
/-! ### What stands behind the end is not asked for -/
theorem RepsL.forget : ∀ {a b : List AV} {vs : List Value}, RepsL M w (a ++ b) vs → RepsL M w (a ++ anys b.length) vs
  | [], b, vs, h => by
    have hl := h.length
    exact anys_reps _ _ (by simpa using hl)
  | x :: a, b, vs, h => by
    simp only [List.cons_append] at h ⊢
    unfold RepsL at h ⊢
    obtain ⟨v, vr, e1, e2, e3⟩ := h
    exact ⟨v, vr, e1, e2, RepsL.forget e3⟩
theorem St.forget (S : St base Fi M w σ) {id : Int} {a b : List AV} (hl : alook σ.objs id = some (a ++ b)) : St base Fi M w ⟨[(id, a ++ anys b.length)], [], σ.next⟩ := by
  refine ⟨S.base_le, fun i c hc => ?_, fun i t hc => by simp [alook] at hc, fun i sh kvs hc => by simp [alook] at hc, S.inj, S.dis, S.tinj, S.obsz, S.tksz, S.fresh⟩
  simp only [alook] at hc
  split at hc
  · rename_i hi
    cases hc
    subst hi
    obtain ⟨g1, bb, us, e, g2, g3, g4, g5⟩ := S.obs id _ hl
    exact ⟨g1, bb, us, e, g2, g3, g4, RepsL.forget g5⟩
  · cases hc
theorem ABuf.mkr {f : FuncId} {args cells : List AV} {R : AV → AV} {L sz : Nat} (hA : AV.shutL args = true) (hC : AV.shutL cells = true) (hR : BufR R)
    (h : ACalls P f args ⟨[], [], 0⟩ (fun rv σ1 => ∃ id j rest, 0 ≤ id ∧ rest.length = j * sz ∧ rv = R (.buf id 0 L (L + j)) ∧ alook σ1.objs id = some (cells ++ rest))) : ABuf P f args R cells L sz := by
  refine ABuf.mk hA hC hR ?_
  intro base Fi M w vs S hr
  refine (h base Fi M w vs S hr).mono ?_
  rintro e w' ⟨rv, σ1, M1, v, ⟨id, j, rest, hid, hrl, rfl, hl⟩, he, hv, S1, T⟩
  have S2 := S1.forget hl
  rw [hrl] at S2
  exact ⟨_, _, M1, v, ⟨id, j, hid, rfl, by simp [alook]⟩, he, hv, S2, T⟩
/-- The same, frozen. -/
theorem AVal.mkbuf {f : FuncId} {args cells : List AV} {R : AV → AV} {L sz : Nat} {R0 : AV} (hA : AV.shutL args = true) (hR0 : R0.shut = true) (h0 : L = 0 → cells = [])
    (hsub : ∀ id j, (AV.sub id 0 L (L + j) (.sl .none cells L) (R (.buf id 0 L (L + j)))).wk = R0)
    (h : ACalls P f args ⟨[], [], 0⟩ (fun rv σ1 => ∃ id j rest, 0 ≤ id ∧ rest.length = j * sz ∧ rv = R (.buf id 0 L (L + j)) ∧ alook σ1.objs id = some (cells ++ rest))) : AVal P f args R0 := by
  refine AVal.mkf hA hR0 ?_
  intro base Fi M w vs S hr
  refine (h base Fi M w vs S hr).mono ?_
  rintro e w' ⟨rv, σ1, M1, v, ⟨id, j, rest, hid, hrl, rfl, hl⟩, he, hv, S1, T⟩
  refine ⟨_, σ1, M1, v, .inr ⟨id, 0, L, L + j, cells ++ rest, cells.length, hid, hl, fun hL => ?_, ?_⟩, he, hv, S1, T⟩
  · rw [List.drop_zero, List.take_left, h0 hL]
  · rw [List.drop_zero, List.take_left]; exact hsub id j
end Go.Proofs.Ytnjkklkjlloedaa
