/- policy: Clone, IndexFunc; comparison of rows' places. -/
import Derived.Test.YtaffpkogcpkmjaaPoB
import Derived.Test.YtaffpkogcpkmjaaPutB
namespace Go.Proofs.Ytaffpkogcpkmjaa
open Go.RowKit
set_option linter.unusedVariables false
set_option linter.unusedSimpArgs false
set_option maxRecDepth 10000
section
variable {base : Nat} {Fi : Int → Prop} {M : MM} {w w' : World}
variable {P : Program} {ops : Array Oper} {r : List Oper} {sl sl' : List AV} {σ σ' : ASt} {Q : Exit → List AV → ASt → Prop}
variable {dst : Option Tmp} {ty : TypeId} {pos : String} {after : Array Edge} {x y z : Operand} {objs : List (Int × List AV)} {toks : List (Int × Nat)} {next : Int}
theorem S_lit0 {t e : TypeId} {sz by_ : Nat} {agg : Bool} {zs : List Value} [T : TySl P t e sz by_] [Z : TyZero P e agg zs] (hzl : zs.length = sz) (hs : aput sl dst (.sl .full [] 0) = sl') (h : AOPS P ops r sl' σ Q) : AOPS P ops (⟨dst, .buildSlice t 0 #[], ty, pos, after, none⟩ :: r) sl σ Q :=
  AOPS_buildSlice (ps := []) rfl (cells := []) (by simp [aparts, afill, azeros]) hzl ⟨by simp, fun _ => rfl⟩ hs h
theorem run_overlaps {t t2 e : TypeId} {rs : Array TypeId} {i : TypeInfo} (ht : P.underlying t = some (.slice e)) (hi : P.info? e = some i) {a b : Addr} {la lb ca cb : Nat} {w : World} (hne : a.block ≠ b.block) {va : Value} (hca : w.cell? a = some va) {cur : Array Value} {ety : TypeId} (hb : w.heap[b.block]? = some (.cells cur ety (0, 0))) (hbs : 0 < cur.size) :
    (Extern.SlicesOverlaps.overlaps #[t, t2] rs #[.slice (some a) la ca, .slice (some b) lb cb]).run P w = .ok (.bool false) w := by
  have hfb : ∀ o s, w.frozen? ⟨b.block, o, s⟩ = false := fun o s => by simp only [World.frozen?, hb]; simp
  have hfb' : w.frozen? b = false := hfb b.off b.spot
  obtain ⟨ca', ea, fa, hha⟩ : ∃ c e f, w.heap[a.block]? = some (.cells c e f) := by
    unfold World.cell? at hca
    split at hca
    · rename_i c e f h; exact ⟨c, e, f, h⟩
    · cases hca
  obtain ⟨k, hk⟩ : ∃ k, ca'.size = k + 1 := by
    refine ⟨ca'.size - 1, ?_⟩
    rcases Nat.eq_zero_or_pos ca'.size with h | h
    · obtain rfl : ca' = #[] := Array.eq_empty_of_size_eq_zero h
      simp only [World.cell?, hha] at hca
      simp at hca
    · omega
  have hsb : w.shape? b.block = some (ety, cur.size) := by simp only [World.shape?, hb]
  have hsa : w.shape? a.block = some (ea, k + 1) := by simp only [World.shape?, hha, hk]
  have hz : ¬ cur.size = 0 := by omega
  change Sem.run P (Bind.bind (m := Sem) _ _) w = _
  rw [Sem.run_bind]
  refine (congrArg (fun r => Result.andThen r _) (run_underlying (w := w) ht)).trans ?_
  simp only [Result.andThen_ok]
  by_cases hl : la = 0 ∨ lb = 0 ∨ i.size = 0
  · simp [sizeOf, typeInfo, hi, hl]
  · cases hfa : w.frozen? a <;> cases hfa2 : w.frozen? ⟨a.block, k + 1, none⟩ <;>
    simp [sizeOf, typeInfo, hi, hl, hne, frozen, Sem.run, hfb', noView, viewAt, hha, hb, mayBeOne, stringish, shape, hsa, hsb, hfb, hfa, hfa2, hz]
end
theorem clone_buf (ms : List Mb) (h0 : 0 < ms.length) (hm : ms.length ≤ 1000) : ABuf Try.prog 58 [mbA ms] (fun b => b) (mbCs ms) ms.length 2 := by
  refine ABuf.mkr (by simp only [AV.shutL, mbA_shut, Bool.and_self]) (mbCs_shut _) BufR.id ?_
  refine ACalls_body Try.func58 rfl rfl ?_
  simp only [Try.ntmps58, List.length_cons, List.length_nil, Nat.reduceAdd, Nat.reduceSub, List.replicate_succ, List.replicate_zero, List.cons_append, List.nil_append]
  refine Run ?_ trivial trivial trivial trivial trivial trivial trivial trivial OwnB.ok trivial trivial trivial
  with_reducible apply S_eqnil_sl
  case hx => rfl
  case hy => rfl
  case h0 => exact h0
  case hs => exact aput_ok rfl
  refine Run ?_ trivial trivial trivial trivial trivial trivial trivial trivial OwnB.ok trivial trivial trivial
  with_reducible apply S_lit0
  case hzl => rfl
  case hs => exact aput_ok rfl
  refine Run ?_ trivial trivial trivial trivial trivial trivial trivial trivial OwnB.ok trivial trivial trivial
  have hl := mbCs_len ms
  with_reducible apply B_append_full
  case hx => rfl
  case hy => rfl
  case hS => exact SrcS.of (SrcOk_sl inferInstance hl (mbCs_ones ms))
  case h0 => exact h0
  case hb => constructor <;> omega
  intro j
  refine Run ?_ trivial trivial trivial trivial trivial trivial trivial trivial OwnB.ok trivial trivial trivial
  exact ⟨_, j, List.replicate (j * 2) .any, by omega, by simp, rfl, rfl⟩
theorem af1_val (x : Mb) (e : En) : AVal Try.prog 60 [.agg [.int .i64 x.who, .int .i64 x.rights], .epr (enC e) 0] (.bool (decide (e.who ≤ x.who))) := by
  refine AVal.mkw (by simp only [AV.shutL, AV.shut, shutL_bvA, wpCs_shut, Bool.and_self]) (by simp [AV.shut]) ?_
  refine ACalls_body Try.func60 rfl rfl ?_
  simp only [Try.ntmps60, List.length_cons, List.length_nil, Nat.reduceAdd, Nat.reduceSub, List.replicate_succ, List.replicate_zero, List.cons_append, List.nil_append]
  refine Run trivial trivial trivial trivial trivial trivial trivial trivial trivial trivial trivial trivial Split.ok
/-- The first place of somebody not below. -/
def idxF : List Mb → Int → Nat
  | [], _ => 0
  | m :: r, w => if w ≤ m.who then 0 else idxF r w + 1
theorem idxF_le : ∀ (ms : List Mb) (w : Int), idxF ms w ≤ ms.length
  | [], w => Nat.le_refl _
  | m :: ms, w => by
    unfold idxF
    split
    · omega
    · have := idxF_le ms w; simp only [List.length_cons]; omega
def idxI (ms : List Mb) (w : Int) : Int := if idxF ms w < ms.length then (idxF ms w : Int) else -1
theorem indexFunc_val (ms : List Mb) (e : En) (hm : ms.length ≤ 1000) : AVal Try.prog 59 [mbA ms, .fn 60 [] [.epr (enC e) 0]] (.int .i64 (idxI ms e.who)) := by
  refine AVal.mkw (by simp only [AV.shutL, AV.shut, mbCs_shut, shutL_bvA, wpCs_shut, Bool.and_self]) (by simp [AV.shut]) ?_
  refine ACalls_body Try.func59 rfl rfl ?_
  simp only [Try.ntmps59, List.length_cons, List.length_nil, Nat.reduceAdd, Nat.reduceSub, List.replicate_succ, List.replicate_zero, List.cons_append, List.nil_append]
  refine Run ?_ trivial trivial trivial trivial trivial trivial trivial trivial trivial trivial trivial trivial
  refine AWP_loopS [4, 5, 7, 8, 9, 10, 11, 12, 13, 14, 15, 16, 17, 18] (N := Nat × List AV) (fun ⟨k, js⟩ => [js.getD 0 .und, js.getD 1 .und, .int .i64 (ms.length : Int), .int .i64 (k : Int), js.getD 2 .und, js.getD 3 .und, js.getD 4 .und, js.getD 5 .und, js.getD 6 .und, js.getD 7 .und, js.getD 8 .und, js.getD 9 .und, js.getD 10 .und, js.getD 11 .und]) (fun ⟨k, js⟩ => ⟨[], [], 0⟩) (fun ⟨k, js⟩ => k ≤ ms.length ∧ idxF ms e.who = k + idxF (ms.drop k) e.who) (fun ⟨k, js⟩ => ms.length - k) ⟨0, [_, _, _, _, _, _, _, _, _, _, _, _]⟩ rfl rfl ?hi0 ?_
  rotate_left
  rintro ⟨k, js⟩ sl_ hs hi
  simp only [setsF, setF, Option.some.injEq] at hs
  subst hs
  case hi0 => exact ⟨by omega, by simp⟩
  obtain ⟨hk, hn⟩ := hi
  by_cases hlt : k < ms.length
  · have hel : ms[k]? = some ms[k] := List.getElem?_eq_getElem hlt
    have hcl := mbCs_load hel
    have hA := af1_val ms[k] e
    have hd := List.drop_eq_getElem_cons hlt
    rw [hd] at hn
    simp only [idxF] at hn
    generalize hx : ms[k] = x at *
    by_cases h1 : e.who ≤ x.who
    · rw [if_pos h1] at hn
      rw [decide_eq_true h1] at hA
      rw [show idxI ms e.who = (k : Int) by unfold idxI; rw [hn, if_pos (by omega)]; rfl]
      refine Run ?_ trivial trivial trivial trivial trivial trivial trivial trivial trivial trivial trivial trivial
      rfl
    · rw [if_neg h1] at hn
      rw [decide_eq_false h1] at hA
      refine Run ?_ trivial trivial trivial trivial trivial trivial trivial trivial trivial trivial trivial trivial
      refine ALoopQ_normal ⟨k + 1, [_, _, _, _, _, _, _, _, _, _, _, _]⟩ rfl rfl ?hi1 ?hm1
      case hi1 => exact ⟨by omega, by rw [hn]; omega⟩
      case hm1 => simp only; omega
  · obtain rfl : k = ms.length := by omega
    rw [List.drop_length] at hn
    rw [show idxI ms e.who = -1 by unfold idxI; rw [hn, if_neg (by simp [idxF])]]
    refine Run ?_ trivial trivial trivial trivial trivial trivial trivial trivial trivial trivial trivial trivial
    rfl
end Go.Proofs.Ytaffpkogcpkmjaa
