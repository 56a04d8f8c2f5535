/- Law 9: how entries come in; SmallEntry, entries as the document has them; the anchor. -/
import Derived.Test.YtaffpkogcpkmjaaRun
import Derived.Test.YtaffpkogcpkmjaaArg
import Derived.WideShapes
import Derived.Test.YtaffpkogcpkmjaaEnB
import Derived.Test.YtaffpkogcpkmjaaRfE1
import Derived.Test.YtaffpkogcpkmjaaEnP
import Derived.Test.YtaffpkogcpkmjaaEnC2
import Derived.Test.YtaffpkogcpkmjaaEnD2
import Derived.Test.YtaffpkogcpkmjaaRfE4
import Derived.Test.YtaffpkogcpkmjaaRfE5
import Derived.Test.YtaffpkogcpkmjaaRfE6
namespace Go.Proofs.Ytaffpkogcpkmjaa
open Go.RowKit
set_option linter.unusedVariables false
set_option linter.unusedSimpArgs false
set_option maxRecDepth 10000
/-! ### XArgA -/
theorem RBytes.repsA {w : World} {v : Value} {l : List UInt8} (h : RBytes w [v] l) : Reps MM.none w (bsA l) v := by
  obtain ⟨A, c, h1, h2⟩ := h
  simp only [List.cons.injEq, and_true] at h1
  subst h1
  exact Rd.reps h2
theorem RBytes.len {w : World} {v : Value} {l : List UInt8} (h : RBytes w [v] l) : l.length ≤ 9223372036854775807 := by
  obtain ⟨A, c, h1, h2⟩ := h
  have := h2.cap
  have := h2.max
  simp only [maxLen] at this
  omega
theorem RInt.repsA {w : World} {v : Value} {k : IntKind} {n : Int} (h : RInt k w [v] n) : Reps MM.none w (.int k n) v := by
  obtain ⟨h1, _⟩ := h
  simp only [List.cons.injEq, and_true] at h1
  subst h1
  exact Reps_int
theorem RStr.repsA {w : World} {v : Value} {l : List UInt8} (h : RStr w [v] l) : Reps MM.none w (.str l) v := by
  obtain ⟨h1, h2⟩ := h
  simp only [List.cons.injEq, and_true] at h1
  subst h1
  unfold Reps
  exact ⟨rfl, h2⟩
theorem RStr.len {w : World} {v : Value} {l : List UInt8} (h : RStr w [v] l) : l.length ≤ 9223372036854775807 := by
  have := h.2
  simp only [maxLen] at this
  omega
theorem RepsL.chunks {w : World} {M : Type} (f : M → List AV) (sz : Nat) {R : World → List Value → M → Prop} (hR : ∀ cs m, R w cs m → RepsL MM.none w (f m) cs) : ∀ (ms : List M) (cells : List Value), cells.length = ms.length * sz → (∀ i m, ms[i]? = some m → R w ((cells.drop (i * sz)).take sz) m) → RepsL MM.none w (ms.flatMap f) cells
  | [], cells, hl, _ => by
    obtain rfl := List.eq_nil_of_length_eq_zero (by simpa using hl)
    exact RepsL.nil
  | m :: ms, cells, hl, h => by
    have h0 := h 0 m rfl
    rw [Nat.zero_mul, List.drop_zero] at h0
    rw [List.length_cons, Nat.succ_mul] at hl
    rw [List.flatMap_cons, ← List.take_append_drop sz cells]
    refine (hR _ _ h0).append (RepsL.chunks f sz hR ms _ (by rw [List.length_drop]; omega) fun i m' hi => ?_)
    have := h (i + 1) m' (by simpa using hi)
    rw [List.drop_drop, show sz + i * sz = (i + 1) * sz by rw [Nat.succ_mul]; omega]
    exact this
/-- A row that came in. -/
theorem RSlice.repsA {w : World} {v : Value} {M : Type} {sz : Nat} {R : World → List Value → M → Prop} {ms : List M} (h : RSlice sz R w [v] ms) (f : M → List AV) (hR : ∀ cs m, R w cs m → RepsL MM.none w (f m) cs) : Reps MM.none w (.sl .none (ms.flatMap f) ms.length) v ∧ ms.length ≤ 9223372036854775807 := by
  obtain ⟨A, c, cells, h1, h2, h3⟩ := h
  simp only [List.cons.injEq, and_true] at h1
  subst h1
  have hc := h2.cap
  have hm := h2.max
  refine ⟨?_, by simp only [maxLen] at hm; omega⟩
  unfold Reps
  exact ⟨A, c, cells, rfl, hc, hm, h2.nil, h2.cells.imp (fun h => h) fun ⟨b, o, hA, hx⟩ => ⟨b, o, hA, fun j u hu => ⟨hx j u hu, stab_none _ _⟩⟩, RepsL.chunks f sz hR ms cells h2.len h3, fun h0 => by rw [List.eq_nil_of_length_eq_zero h0]; rfl, trivial⟩
/-- Each element of a row that came in. -/
theorem RSlice.each {w : World} {cs : List Value} {M : Type} {sz : Nat} {R : World → List Value → M → Prop} {ms : List M} (h : RSlice sz R w cs ms) : ∀ m ∈ ms, ∃ c, R w c m := by
  obtain ⟨A, c, cells, h1, h2, h3⟩ := h
  intro m hm
  obtain ⟨i, hi, rfl⟩ := List.getElem_of_mem hm
  exact ⟨_, h3 i _ (List.getElem?_eq_getElem hi)⟩
theorem flatMap_single {α β : Type} (f : α → β) : ∀ l : List α, l.flatMap (fun x => [f x]) = l.map f
  | [] => rfl
  | x :: l => by rw [List.flatMap_cons, flatMap_single f l]; rfl
theorem RBytes.one {w : World} {cs : List Value} {l : List UInt8} (h : RBytes w cs l) : RepsL MM.none w [bsA l] cs := by
  have h' := h
  obtain ⟨A, c, h1, h2⟩ := h
  subst h1
  exact RepsL.one (RBytes.repsA h')
theorem RStr.one {w : World} {cs : List Value} {l : List UInt8} (h : RStr w cs l) : RepsL MM.none w [.str l] cs := by
  have h' := h
  obtain ⟨h1, h2⟩ := h
  subst h1
  exact RepsL.one (RStr.repsA h')
theorem RInt.one {w : World} {k : IntKind} {cs : List Value} {n : Int} (h : RInt k w cs n) : RepsL MM.none w [.int k n] cs := by
  have h' := h
  obtain ⟨h1, h2⟩ := h
  subst h1
  exact RepsL.one (RInt.repsA h')
theorem RInt.i64 {w : World} {cs : List Value} {n : Int} (h : RInt .i64 w cs n) : -9223372036854775808 ≤ n ∧ n ≤ 9223372036854775807 := by
  have := h.2
  simpa [Lit.wf, IntKind.min, IntKind.max, IntKind.signed, IntKind.bits] using this
theorem okWide_agg {P : Program} {w : World} {r : Reach} {base : Nat} {t : TypeId} {v : Value} {fs : Array Field} (ht : P.underlying t = some (.struct fs)) (h : Value.okWide P w r base t v) : ∃ cs, v = .agg cs := by
  unfold Value.okWide at h
  rw [ht] at h
  obtain ⟨cs, h, _⟩ := h
  exact ⟨cs, h⟩
/-! ### XEnO -/
theorem open_bytes1 : Opens Try.prog 22 RBytes := opens_bytes Try.underlying22 Try.underlying5 (by kernel_rfl)
abbrev RWp2 (w : World) (cs : List Value) (m : Int × List UInt8) : Prop := ∃ c0 c1, cs = [c0, c1] ∧ RInt .i64 w [c0] m.1 ∧ RBytes w [c1] m.2
theorem open_wrap2 : Opens Try.prog 45 RWp2 := opens_struct2 Try.underlying45 rfl (by kernel_rfl) (by kernel_rfl) (opens_int Try.underlying3) (opens_bytes Try.underlying22 Try.underlying5 (by kernel_rfl))
theorem open_wraps : Opens Try.prog 23 (RSlice 2 RWp2) := opens_slice Try.underlying23 (by kernel_rfl) (by omega) open_wrap2
def wpOf (m : Int × List UInt8) : Wp := ⟨m.1, m.2⟩
theorem RWraps.repsA {w : World} {v : Value} {ms : List (Int × List UInt8)} (h : RSlice 2 RWp2 w [v] ms) : Reps MM.none w (wrA (ms.map wpOf)) v ∧ (ms.map wpOf).length ≤ 9223372036854775807 ∧ ∀ x ∈ ms.map wpOf, x.box.length ≤ 9223372036854775807 := by
  obtain ⟨h1, h2⟩ := RSlice.repsA h (fun m => wpC (wpOf m)) (fun cs m ⟨c0, c1, e, g0, g1⟩ => by
    subst e
    exact RepsL.cons (RInt.repsA g0) (RBytes.one g1))
  refine ⟨?_, by simpa using h2, fun x hx => ?_⟩
  · have e : wpCs (ms.map wpOf) = ms.flatMap (fun m => wpC (wpOf m)) := by
      unfold wpCs
      rw [List.flatMap_map]
    unfold wrA
    rw [e, List.length_map]
    exact h1
  · obtain ⟨m, hm, rfl⟩ := List.mem_map.1 hx
    obtain ⟨c, c0, c1, e, g0, g1⟩ := RSlice.each h m hm
    exact RBytes.len g1
/-- An entry that came in. -/
structure REn (w : World) (cs : List Value) (e : En) : Prop where
  reps : RepsL MM.none w (enC e) cs
  name : e.name.length ≤ 9223372036854775807
  value : e.value.length ≤ 9223372036854775807
  wraps : e.wraps.length ≤ 9223372036854775807
  boxes : ∀ x ∈ e.wraps, x.box.length ≤ 9223372036854775807
theorem open_entry : Opens Try.prog 25 REn := by
  intro H enc w base spare held fuel cs x h
  obtain ⟨⟨k, wr, s, nm, vl, wh, rt, ep, ws⟩, c0, c1, c2, c3, c4, c5, c6, c7, c8, rfl, h0, h1, h2, h3, h4, h5, h6, h7, h8⟩ := opens_struct9 Try.underlying25 rfl (by kernel_rfl) (by kernel_rfl) (opens_int Try.underlying3) (opens_int Try.underlying3) (opens_int Try.underlying3) open_bytes1 open_bytes1 (opens_int Try.underlying3) (opens_int Try.underlying3) (opens_int Try.underlying3) open_wraps H enc w base spare held fuel cs x h
  obtain ⟨g1, g2, g3⟩ := RWraps.repsA h8
  exact ⟨⟨k, wr, s, nm, vl, wh, rt, ep, ws.map wpOf⟩, .cons (RInt.repsA h0) (.cons (RInt.repsA h1) (.cons (RInt.repsA h2) (.cons (RBytes.repsA h3) (.cons (RBytes.repsA h4) (.cons (RInt.repsA h5) (.cons (RInt.repsA h6) (.cons (RInt.repsA h7) (.cons g1 .nil)))))))), RBytes.len h3, RBytes.len h4, g2, g3⟩
theorem REn.agg {w : World} {cs : Array Value} {e : En} (h : REn w cs.toList e) : Reps MM.none w (enA e) (.agg cs) := by unfold Reps; exact ⟨cs, rfl, h.reps⟩
/-! ### XEnM -/
def SmallE (e : En) : Prop := (∀ w ∈ e.wraps, w.box.length ≤ 100) ∧ e.name.length ≤ 100 ∧ e.value.length ≤ 600 ∧ e.wraps.length ≤ 20
instance (e : En) : Decidable (SmallE e) := by unfold SmallE; infer_instance
theorem SmallE.mid {e : En} (h : SmallE e) : e.Mid := ⟨by have := h.2.1; omega, by have := h.2.2.1; omega, by have := h.2.2.2; omega, fun w hw => by have := h.1 w hw; omega⟩
theorem take_succ_allW {ws : List Wp} {k : Nat} {x : Wp} (hel : ws[k]? = some x) {p : Wp → Prop} (h : ∀ b ∈ ws.take k, p b) (hx : p x) : ∀ b ∈ ws.take (k + 1), p b := by
  intro b hb
  rw [List.take_add_one, hel] at hb
  rcases List.mem_append.1 hb with hb | hb
  · exact h b hb
  · simp only [Option.toList_some, List.mem_singleton] at hb; subst hb; exact hx
set_option maxHeartbeats 4000000 in
theorem smallE_val (e : En) (hm : e.wraps.length ≤ 9223372036854775807) : AVal Try.prog 16 [enA e] (.bool (decide (SmallE e))) := by
  refine AVal.mkw (by simp only [AV.shutL, enA_shut, Bool.and_self]) (by simp [AV.shut]) ?_
  refine ACalls_body Try.func16 rfl rfl ?_
  simp only [Try.ntmps16, List.length_cons, List.length_nil, Nat.reduceAdd, Nat.reduceSub, List.replicate_succ, List.replicate_zero, List.cons_append, List.nil_append]
  refine Run ?_ trivial trivial trivial trivial trivial trivial trivial trivial trivial trivial trivial trivial
  refine AWP_loopW [2, 4, 6, 7, 8, 9, 10, 11, 12, 13, 14, 15, 16] (N := Nat × Int × List AV) (fun ⟨k, nx, js⟩ => [js.getD 0 .und, js.getD 1 .und, wrA e.wraps, .int .i64 (e.wraps.length : Int), .int .i64 (k : Int), js.getD 2 .und, js.getD 3 .und, js.getD 4 .und, js.getD 5 .und, js.getD 6 .und, js.getD 7 .und, js.getD 8 .und, js.getD 9 .und]) (fun ⟨k, nx, js⟩ => ⟨[(0, enC e)], [], nx⟩) (fun ⟨k, nx, js⟩ => k ≤ e.wraps.length ∧ (∀ b ∈ e.wraps.take k, b.box.length ≤ 100) ∧ 1 ≤ nx) (fun ⟨k, nx, js⟩ => e.wraps.length - k) ⟨0, 1, [_, _, _, _, _, _, _, _, _, _]⟩ rfl ?hs0 ?hi0 ?_
  rotate_left 2
  rintro ⟨k, nx, js⟩ sl_ hs hi
  simp only [setsF, setF, Option.some.injEq] at hs
  subst hs
  case hs0 => exact ASub.refl _
  case hi0 => exact ⟨by omega, by simp, by omega⟩
  obtain ⟨hk, hn, hnx⟩ := hi
  by_cases hlt : k < e.wraps.length
  · have hel : e.wraps[k]? = some e.wraps[k] := List.getElem?_eq_getElem hlt
    have hcl := wpCs_load hel
    generalize hx : e.wraps[k] = x at *
    by_cases h1 : x.box.length ≤ 100
    · refine Run ?_ trivial trivial trivial trivial trivial trivial trivial trivial trivial trivial trivial trivial
      refine ALoopW_normal ⟨k + 1, nx + 1, [_, _, _, _, _, _, _, _, _, _]⟩ rfl ?hs1 ?hi1 ?hm1
      case hs1 => exact (ASub.refl _).drop (by simp only [alook]; repeat (first | rw [if_neg (by omega)]))
      case hi1 => exact ⟨by omega, take_succ_allW hel hn h1, by omega⟩
      case hm1 => simp only; omega
    · rw [decide_eq_false (fun h => h1 (h.1 x (List.mem_of_getElem? hel)))]
      refine Run ?_ trivial trivial trivial trivial trivial trivial trivial trivial trivial trivial trivial trivial
      rfl
  · obtain rfl : k = e.wraps.length := by omega
    rw [List.take_length] at hn
    have hF : SmallE e ↔ e.name.length ≤ 100 ∧ e.value.length ≤ 600 ∧ e.wraps.length ≤ 20 := ⟨fun h => h.2, fun h => ⟨hn, h⟩⟩
    refine Run trivial trivial trivial trivial trivial trivial trivial trivial trivial trivial trivial hF Split.ok
set_option maxHeartbeats 4000000 in
theorem madeE_val (e : En) (hm : e.wraps.length ≤ 1000) : AVal Try.prog 17 [enA e] (enA e) := by
  refine AVal.mkw (by simp only [AV.shutL, enA_shut, Bool.and_self]) (enA_shut _) ?_
  refine ACalls_body Try.func17 rfl rfl ?_
  simp only [Try.ntmps17, List.length_cons, List.length_nil, Nat.reduceAdd, Nat.reduceSub, List.replicate_succ, List.replicate_zero, List.cons_append, List.nil_append]
  refine Run ?_ trivial trivial trivial trivial trivial trivial trivial trivial trivial trivial trivial trivial
  refine AWP_adoptO 2 8 2 rfl rfl rfl rfl ?_
  refine AWP_loopW [5, 24, 25, 26, 27, 28, 29, 30, 31, 32, 33, 34, 35, 36] (N := Nat × Nat × List AV × Int × List AV) (fun ⟨k, n, cs, nx, js⟩ => [js.getD 0 .und, wrA e.wraps, .int .i64 (e.wraps.length : Int), .int .i64 (k : Int), js.getD 1 .und, js.getD 2 .und, js.getD 3 .und, js.getD 4 .und, js.getD 5 .und, js.getD 6 .und, js.getD 7 .und, js.getD 8 .und, js.getD 9 .und, js.getD 10 .und]) (fun ⟨k, n, cs, nx, js⟩ => ⟨[(2, [.int .i64 e.kind, .int .i64 e.writer, .int .i64 e.seq, bsA e.name, bsA e.value, .int .i64 e.who, .int .i64 e.rights, .int .i64 e.epoch, .sl (.tok 3 n 2) cs n]), (1, [.int .i64 0, .int .i64 0, .int .i64 0, .nils, .nils, .int .i64 0, .int .i64 0, .int .i64 0, .nils]), (0, enC e)], [(3, n)], nx⟩) (fun ⟨k, n, cs, nx, js⟩ => k ≤ e.wraps.length ∧ cs = wpCs (e.wraps.take k) ∧ n = k ∧ 4 ≤ nx) (fun ⟨k, n, cs, nx, js⟩ => e.wraps.length - k) ⟨0, 0, [], 4, [_, _, _, _, _, _, _, _, _, _, _]⟩ rfl ?hs0 ?hi0 ?_
  rotate_left 2
  rintro ⟨k, n, cs, nx, js⟩ sl_ hs hi
  simp only [setsF, setF, Option.some.injEq] at hs
  subst hs
  case hs0 => exact ASub.refl _
  case hi0 => exact ⟨by omega, rfl, rfl, by omega⟩
  obtain ⟨hk, hcs, hn, hnx⟩ := hi
  by_cases hlt : k < e.wraps.length
  · have hel : e.wraps[k]? = some e.wraps[k] := List.getElem?_eq_getElem hlt
    have hcl := wpCs_load hel
    have hs1 : wpCs (e.wraps.take (k + 1)) = wpCs (e.wraps.take k) ++ [.int .i64 e.wraps[k].who, bsA e.wraps[k].box] := by
      rw [List.take_add_one, hel, Option.toList_some]
      unfold wpCs
      rw [List.flatMap_append]
      rfl
    generalize hx : e.wraps[k] = x at *
    refine Run ?_ trivial trivial trivial trivial trivial trivial trivial trivial trivial trivial trivial trivial
    refine ALoopW_normal ⟨k + 1, n + 1, cs ++ [.int .i64 x.who, bsA x.box], nx + 1, [_, _, _, _, _, _, _, _, _, _, _]⟩ rfl ?hs1 ?hi1 ?hm1
    case hs1 => exact (ASub.refl _).drop (by simp only [alook]; repeat (first | rw [if_neg (by omega)]))
    case hi1 => exact ⟨by omega, by rw [hs1, hcs], by omega, by omega⟩
    case hm1 => simp only; omega
  · obtain rfl : k = e.wraps.length := by omega
    rw [List.take_length] at hcs
    subst hcs hn
    refine Run ?_ trivial trivial trivial trivial trivial trivial trivial trivial trivial trivial trivial trivial
    simp only [aone, AV.wk, AV.wkL, AV.wkL_bvA, wpCs_wk]
/-! ### XEnW0 -/
theorem En.same_self (e : En) : e.same e = true := (En.same_iff e e).2 rfl
theorem enR_ok {e : En} (h : EnOk e) : enR e = okA (enB e) := by unfold enR; rw [if_pos h]
theorem enR_no {e : En} (h : ¬ EnOk e) : enR e = erA 10 := by unfold enR; rw [if_neg h]
theorem enD_ok {e : En} (h : EnOk e) : enD (enB e) = .tup [enA e, .int .i64 0] := by unfold enD; rw [if_pos (en_ok h).1, (en_ok h).2]
theorem enD_no {b : List UInt8} (h : ¬ enOk b) : enD b = .tup [enA zeroE, .int .i64 10] := by unfold enD; rw [if_neg h]
theorem enB_len {e : En} (h : EnOk e) : (enB e).length ≤ 10000 := by
  have hf := h.fields
  obtain ⟨f1, f2, f3, f4, f5, f6, f7, f8, f9⟩ := hf
  have hwl := f9.2
  have hwe := f9.each
  have hw : ∀ ws : List Wp, (∀ w ∈ ws, w.box.length = 48) → (ws.flatMap wpB).length = 56 * ws.length := by
    intro ws
    induction ws with
    | nil => simp
    | cons w ws ih =>
      intro h
      have h1 := h w (List.mem_cons_self ..)
      have := ih (fun x hx => h x (List.mem_cons_of_mem _ hx))
      simp only [List.flatMap_cons, List.length_append, wpB, numB_length, textB, List.length_cons, List.length_nil, this, h1]
      omega
  have hw2 := hw e.wraps (fun w hw => (hwe w hw).2.2)
  rw [enB_ex]
  unfold enP1
  split
  · simp [putB, ptB, numB_length, textB]; omega
  · split
    · simp [putB, ptB, numB_length, textB]; omega
    · split
      · simp [putB, ptB, numB_length, textB]
      · split
        · simp [putB, ptB, numB_length, textB]
        · have e1 : putB ([.inl e.epoch, .inl e.wraps.length] ++ e.wraps.flatMap wpP) = numB e.epoch.toNat ++ (numB e.wraps.length ++ e.wraps.flatMap wpB) := by
            rw [← putB_wraps]
            simp [putB, ptB]
          rw [e1]
          simp only [List.length_append, numB_length, hw2]
          omega
def e0_ : En := ⟨2, 1, 1, [97], [], 0, 0, 0, []⟩
theorem e0_ok : EnOk e0_ := (enok2 ..).2 (by simp)
theorem e0_len : (enB e0_).length = 21 := by simp [enB_ex, e0_, enP1, putB, ptB, numB_length, textB]
theorem anchor9_val : AVal Try.prog 15 [] (.bool true) := by
  refine AVal.mkw (by simp [AV.shutL]) (by simp [AV.shut]) ?_
  refine ACalls_body Try.func15 rfl rfl ?_
  simp only [Try.ntmps15, List.length_cons, List.length_nil, Nat.reduceAdd, Nat.reduceSub, List.replicate_succ, List.replicate_zero, List.cons_append, List.nil_append]
  have hl := e0_len
  have h1 : AVal Try.prog 18 [.agg [.int .i64 2, .int .i64 1, .int .i64 1, .sl .none [.int .u8 97] 1, .sl .none [] 0, .int .i64 0, .int .i64 0, .int .i64 0, .sl .none [] 0]] (okA (enB e0_)) := by
    have := enencode_val e0_ ⟨by simp [e0_], by simp [e0_], by simp [e0_], by simp [e0_]⟩
    rw [enR_ok e0_ok] at this
    exact this
  have h2 : AVal Try.prog 21 [bsA (enB e0_)] (.tup [.agg [.int .i64 2, .int .i64 1, .int .i64 1, bsA [97], .sl .none [] 0, .int .i64 0, .int .i64 0, .int .i64 0, .sl .none [] 0], .int .i64 0]) := by
    have := endecode_val (enB e0_) (by omega)
    rw [enD_ok e0_ok] at this
    exact this
  have h3 : AVal Try.prog 19 [.agg [.int .i64 0, .int .i64 0, .int .i64 0, .sl .none [] 0, .sl .none [] 0, .int .i64 0, .int .i64 0, .int .i64 0, .sl .none [] 0]] (.bool false) := by
    have := enright_val zeroE ⟨by simp [zeroE], by simp [zeroE], by simp [zeroE], by simp [zeroE]⟩
    rw [decide_eq_false zeroE_no] at this
    exact this
  refine Run ?_ trivial trivial trivial trivial trivial trivial trivial RowB.ok trivial trivial trivial trivial
  rfl
end Go.Proofs.Ytaffpkogcpkmjaa
