/- policy: Readers, fits, May, by the abstract machine. -/
import Derived.Test.YtaffpkogcpkmjaaPoA
namespace Go.Proofs.Ytaffpkogcpkmjaa
open Go.RowKit
set_option linter.unusedVariables false
set_option linter.unusedSimpArgs false
set_option maxRecDepth 10000
/-- Numbers. -/
def inA (n : Int) : AV := .int .i64 n
abbrev insA (l : List Int) : AV := .sl .none (l.map inA) l.length
theorem inAs_shut : ∀ l : List Int, AV.shutL (l.map inA) = true
  | [] => rfl
  | x :: l => by simp only [List.map_cons, AV.shutL, inA, AV.shut, Bool.true_and]; exact inAs_shut l
theorem inAs_wk : ∀ l : List Int, AV.wkL (l.map inA) = l.map inA
  | [] => rfl
  | x :: l => by
    show (inA x).wk :: AV.wkL (l.map inA) = _
    rw [inAs_wk l]; rfl
theorem insA_shut (l : List Int) : (insA l).shut = true := by unfold insA AV.shut; exact inAs_shut l
theorem mb_rights {ms : List Mb} {k : Nat} {w : Mb} (h : ms[k]? = some w) : (mbCs ms)[k * 2 + 1]? = some (.int .i64 w.rights) := by
  obtain ⟨hk, rfl⟩ := List.getElem?_eq_some_iff.1 h
  have : (mbCs ms)[k * 2 + 1]? = ((mbCs ms).drop (k * 2))[1]? := by simp
  rw [this, mbCs_drop, List.drop_eq_getElem_cons hk]
  rfl
theorem bits1 {r : Int} (h0 : 0 ≤ r) (h : r ≤ 7) : (bits .and .i64 r 1 != 0) = decide (r % 2 = 1) := by
  rcases (show r = 0 ∨ r = 1 ∨ r = 2 ∨ r = 3 ∨ r = 4 ∨ r = 5 ∨ r = 6 ∨ r = 7 by omega) with rfl | rfl | rfl | rfl | rfl | rfl | rfl | rfl <;> rfl
theorem bits6 {r : Int} (h0 : 0 ≤ r) (h : r ≤ 7) : (bits .and .i64 r 6 == 0) = decide (r < 2) := by
  rcases (show r = 0 ∨ r = 1 ∨ r = 2 ∨ r = 3 ∨ r = 4 ∨ r = 5 ∨ r = 6 ∨ r = 7 by omega) with rfl | rfl | rfl | rfl | rfl | rfl | rfl | rfl <;> rfl
theorem bits4 {r : Int} (h0 : 0 ≤ r) (h : r ≤ 7) : (bits .and .i64 r 4 == 0) = decide (r < 4) := by
  rcases (show r = 0 ∨ r = 1 ∨ r = 2 ∨ r = 3 ∨ r = 4 ∨ r = 5 ∨ r = 6 ∨ r = 7 by omega) with rfl | rfl | rfl | rfl | rfl | rfl | rfl | rfl <;> rfl
def oddM (m : Mb) : Bool := decide (m.rights % 2 = 1)
def readersOf (ms : List Mb) : List Int := (ms.filter oddM).map Mb.who
theorem readersOf_snoc (ms : List Mb) (m : Mb) : readersOf (ms ++ [m]) = readersOf ms ++ (if oddM m = true then [m.who] else []) := by
  unfold readersOf
  rw [List.filter_append, List.map_append]
  cases h : oddM m <;> simp [List.filter_cons, h]
theorem readersOf_len (ms : List Mb) : (readersOf ms).length ≤ ms.length := by
  unfold readersOf; rw [List.length_map]; exact List.length_filter_le _ _
theorem MbOk.rights {ms : List Mb} (h : MbOk ms) {k : Nat} {x : Mb} (hel : ms[k]? = some x) : 1 ≤ x.rights ∧ x.rights ≤ 7 := by
  obtain ⟨hk, rfl⟩ := List.getElem?_eq_some_iff.1 hel
  have := h k hk
  rw [getD_of (List.getElem?_eq_getElem hk)] at this
  exact ⟨this.2.2.1, this.2.2.2⟩
set_option maxHeartbeats 4000000 in
theorem readers_val (p : Po) (hok : MbOk p.mem) (hm : p.mem.length ≤ 1000) : AVal Try.prog 36 [poA p] (insA (readersOf p.mem)) := by
  refine AVal.mkw (by simp only [AV.shutL, poA_shut, Bool.and_self]) (insA_shut _) ?_
  refine ACalls_body Try.func36 rfl rfl ?_
  simp only [Try.ntmps36, List.length_cons, List.length_nil, Nat.reduceAdd, Nat.reduceSub, List.replicate_succ, List.replicate_zero, List.cons_append, List.nil_append]
  refine Run ?_ trivial trivial trivial trivial trivial trivial trivial trivial trivial trivial trivial trivial
  refine AWP_adopt 3 1 rfl (by simp only [setF]; rfl) ?_
  refine AWP_loopW [3, 5, 7, 8, 9, 10, 11, 12, 13, 14, 15, 16, 17, 18, 19, 20, 21, 22] (N := Nat × Nat × List AV × Int × List AV) (fun ⟨k, n, cs, nx, js⟩ => [.sl (.tok 1 n 1) cs n, js.getD 0 .und, mbA p.mem, .int .i64 (p.mem.length : Int), .int .i64 (k : Int), js.getD 1 .und, js.getD 2 .und, js.getD 3 .und, js.getD 4 .und, js.getD 5 .und, js.getD 6 .und, js.getD 7 .und, js.getD 8 .und, js.getD 9 .und, js.getD 10 .und, js.getD 11 .und, js.getD 12 .und, js.getD 13 .und]) (fun ⟨k, n, cs, nx, js⟩ => ⟨[(0, poC p)], [(1, n)], nx⟩) (fun ⟨k, n, cs, nx, js⟩ => k ≤ p.mem.length ∧ cs = (readersOf (p.mem.take k)).map inA ∧ n = (readersOf (p.mem.take k)).length ∧ n ≤ k ∧ 2 ≤ nx) (fun ⟨k, n, cs, nx, js⟩ => p.mem.length - k) ⟨0, 0, [], 2, [_, _, _, _, _, _, _, _, _, _, _, _, _, _]⟩ rfl ?hs0 ?hi0 ?_
  rotate_left 2
  rintro ⟨k, n, cs, nx, js⟩ sl_ hs hi
  simp only [setsF, setF, Option.some.injEq] at hs
  subst hs
  case hs0 => exact ASub.refl _
  case hi0 => exact ⟨by omega, rfl, rfl, by omega, by omega⟩
  obtain ⟨hk, hcs, hn, hnk, hnx⟩ := hi
  by_cases hlt : k < p.mem.length
  · have hel : p.mem[k]? = some p.mem[k] := List.getElem?_eq_getElem hlt
    have hcl := mbCs_load hel
    have hr := hok.rights hel
    have hs1 : readersOf (p.mem.take (k + 1)) = readersOf (p.mem.take k) ++ (if oddM p.mem[k] = true then [p.mem[k].who] else []) := by
      rw [List.take_add_one, hel, Option.toList_some, readersOf_snoc]
    generalize hx : p.mem[k] = x at *
    have hb := bits1 (r := x.rights) (by omega) (by omega)
    cases ho : oddM x with
    | true =>
      rw [ho, if_pos rfl] at hs1
      have ho' : decide (x.rights % 2 = 1) = true := ho
      rw [ho'] at hb
      refine Run ?_ trivial trivial trivial trivial trivial trivial trivial trivial trivial trivial trivial trivial
      refine ALoopW_normal ⟨k + 1, n + 1, _, nx + 1, [_, _, _, _, _, _, _, _, _, _, _, _, _, _]⟩ rfl ?hs1 ?hi1 ?hm1
      case hs1 => exact (ASub.refl _).drop (by simp only [alook]; repeat (first | rw [if_neg (by omega)]))
      case hi1 => exact ⟨by omega, by rw [hs1, hcs]; simp [inA], by rw [hs1, hn]; simp, by omega, by omega⟩
      case hm1 => simp only; omega
    | false =>
      rw [ho, if_neg (by simp), List.append_nil] at hs1
      have ho' : decide (x.rights % 2 = 1) = false := ho
      rw [ho'] at hb
      refine Run ?_ trivial trivial trivial trivial trivial trivial trivial trivial trivial trivial trivial trivial
      refine ALoopW_normal ⟨k + 1, n, cs, nx + 1, [_, _, _, _, _, _, _, _, _, _, _, _, _, _]⟩ rfl ?hs1 ?hi1 ?hm1
      case hs1 => exact (ASub.refl _).drop (by simp only [alook]; repeat (first | rw [if_neg (by omega)]))
      case hi1 => exact ⟨by omega, by rw [hs1, hcs], by rw [hs1, hn], by omega, by omega⟩
      case hm1 => simp only; omega
  · obtain rfl : k = p.mem.length := by omega
    rw [List.take_length] at hcs hn
    subst hcs hn
    refine Run ?_ trivial trivial trivial trivial trivial trivial trivial trivial trivial trivial trivial trivial
    simp only [aone, AV.wk, inAs_wk]
theorem inA_get {l : List Int} {k : Nat} (hk : k < l.length) : (l.map inA)[k]? = some (.int .i64 l[k]) := by
  rw [List.getElem?_map, List.getElem?_eq_getElem hk]; rfl
theorem equalI_val (a b : List Int) (hm : a.length ≤ 1000000000) : AVal Try.prog 72 [insA a, insA b] (.bool (decide (a = b))) := by
  refine AVal.mkw (by simp [AV.shutL, insA_shut]) (by simp [AV.shut]) ?_
  refine ACalls_body Try.func72 rfl rfl ?_
  simp only [Try.ntmps72, List.length_cons, List.length_nil, Nat.reduceAdd, Nat.reduceSub, List.replicate_succ, List.replicate_zero, List.cons_append, List.nil_append]
  by_cases hl : (a.length : Int) = b.length
  · refine Run ?_ trivial trivial trivial trivial trivial trivial trivial trivial trivial trivial trivial trivial
    refine AWP_loopS [4, 5, 12, 13, 14, 15, 16, 17, 18, 19, 20, 21, 22, 23, 24, 25] (N := Nat × List AV) (fun ⟨k, js⟩ => [js.getD 0 .und, js.getD 1 .und, .int .i64 (a.length : Int), .int .i64 (k : Int), js.getD 2 .und, js.getD 3 .und, js.getD 4 .und, js.getD 5 .und, js.getD 6 .und, js.getD 7 .und, js.getD 8 .und, js.getD 9 .und, js.getD 10 .und, js.getD 11 .und, js.getD 12 .und, js.getD 13 .und]) (fun ⟨k, js⟩ => ⟨[], [], 0⟩) (fun ⟨k, js⟩ => k ≤ a.length ∧ a.take k = b.take k) (fun ⟨k, js⟩ => a.length - k) ⟨0, [_, _, _, _, _, _, _, _, _, _, _, _, _, _]⟩ rfl rfl ?hi0 ?_
    rotate_left
    rintro ⟨k, js⟩ sl_ hs hi
    simp only [setsF, setF, Option.some.injEq] at hs
    subst hs
    case hi0 => exact ⟨by omega, rfl⟩
    obtain ⟨hk, hn⟩ := hi
    by_cases hlt : k < a.length
    · have hka : k < b.length := by omega
      have c0 := inA_get hlt
      have c1 := inA_get hka
      by_cases he : a[k] = b[k]
      · refine Run ?_ trivial trivial trivial trivial trivial trivial trivial trivial trivial trivial trivial trivial
        refine ALoopQ_normal ⟨k + 1, [_, _, _, _, _, _, _, _, _, _, _, _, _, _]⟩ rfl rfl ?hi1 ?hm1
        case hi1 =>
          refine ⟨by omega, ?_⟩
          rw [List.take_add_one, List.take_add_one, hn, List.getElem?_eq_getElem hlt, List.getElem?_eq_getElem hka, he]
        case hm1 => simp only; omega
      · rw [decide_eq_false (fun h => he (by subst h; rfl))]
        refine Run ?_ trivial trivial trivial trivial trivial trivial trivial trivial trivial trivial trivial trivial
        rfl
    · obtain rfl : k = a.length := by omega
      rw [List.take_length, List.take_of_length_le (by omega)] at hn
      rw [decide_eq_true hn]
      refine Run ?_ trivial trivial trivial trivial trivial trivial trivial trivial trivial trivial trivial trivial
      rfl
  · rw [decide_eq_false (fun h => hl (by rw [h]))]
    refine Run ?_ trivial trivial trivial trivial trivial trivial trivial trivial trivial trivial trivial trivial
    rfl
def Fits (p : Po) (e : En) : Prop := e.epoch = p.epoch + 1 ∧ e.wraps.map Wp.who = readersOf p.mem
instance (p : Po) (e : En) : Decidable (Fits p e) := by unfold Fits; infer_instance
set_option maxHeartbeats 4000000 in
theorem fits_val (p : Po) (e : En) (hok : PoOk p) (hm : p.mem.length ≤ 1000) (hw : e.wraps.length ≤ 1000) : AVal Try.prog 64 [poA p, enA e] (.bool (decide (Fits p e))) := by
  refine AVal.mkw (by simp only [AV.shutL, poA_shut, enA_shut, Bool.and_self]) (by simp [AV.shut]) ?_
  refine ACalls_body Try.func64 rfl rfl ?_
  simp only [Try.ntmps64, List.length_cons, List.length_nil, Nat.reduceAdd, Nat.reduceSub, List.replicate_succ, List.replicate_zero, List.cons_append, List.nil_append]
  have hR := readers_val p hok.1 hm
  have e1 := hok.2.1
  have e2 := hok.2.2.1
  refine Run ?_ trivial trivial trivial trivial trivial trivial trivial trivial trivial trivial trivial trivial
  refine AWP_adopt 5 1 rfl (by simp only [setF]; rfl) ?_
  refine AWP_loopW [5, 7, 9, 10, 11, 12, 13, 14, 15, 16, 17, 18, 19, 20] (N := Nat × Nat × List AV × Int × List AV) (fun ⟨k, n, cs, nx, js⟩ => [.sl (.tok 2 n 1) cs n, js.getD 0 .und, wrA e.wraps, .int .i64 (e.wraps.length : Int), .int .i64 (k : Int), js.getD 1 .und, js.getD 2 .und, js.getD 3 .und, js.getD 4 .und, js.getD 5 .und, js.getD 6 .und, js.getD 7 .und, js.getD 8 .und, js.getD 9 .und]) (fun ⟨k, n, cs, nx, js⟩ => ⟨[(1, enC e), (0, poC p)], [(2, n)], nx⟩) (fun ⟨k, n, cs, nx, js⟩ => k ≤ e.wraps.length ∧ cs = ((e.wraps.take k).map Wp.who).map inA ∧ n = k ∧ 3 ≤ nx) (fun ⟨k, n, cs, nx, js⟩ => e.wraps.length - k) ⟨0, 0, [], 3, [_, _, _, _, _, _, _, _, _, _]⟩ rfl ?hs0 ?hi0 ?_
  rotate_left 2
  rintro ⟨k, n, cs, nx, js⟩ sl_ hs hi
  simp only [setsF, setF, Option.some.injEq] at hs
  subst hs
  case hs0 => exact ASub.refl _
  case hi0 => exact ⟨by omega, rfl, rfl, by omega⟩
  obtain ⟨hk, hcs, hn, hnx⟩ := hi
  by_cases hlt : k < e.wraps.length
  · have hel : e.wraps[k]? = some e.wraps[k] := List.getElem?_eq_getElem hlt
    have hcl := wpCs_load hel
    have hs1 : e.wraps.take (k + 1) = e.wraps.take k ++ [e.wraps[k]] := by rw [List.take_add_one, hel]; rfl
    generalize hx : e.wraps[k] = x at *
    refine Run ?_ trivial trivial trivial trivial trivial trivial trivial trivial trivial trivial trivial trivial
    refine ALoopW_normal ⟨k + 1, n + 1, _, nx + 1, [_, _, _, _, _, _, _, _, _, _]⟩ rfl ?hs1 ?hi1 ?hm1
    case hs1 => exact (ASub.refl _).drop (by simp only [alook]; repeat (first | rw [if_neg (by omega)]))
    case hi1 => exact ⟨by omega, by rw [hs1, hcs]; simp [inA], by omega, by omega⟩
    case hm1 => simp only; omega
  · obtain rfl : k = e.wraps.length := by omega
    rw [List.take_length] at hcs
    subst hcs hn
    have hE : AVal Try.prog 72 [.sl .none ((e.wraps.map Wp.who).map inA) e.wraps.length, insA (readersOf p.mem)] (.bool (decide (e.wraps.map Wp.who = readersOf p.mem))) := by
      have := equalI_val (e.wraps.map Wp.who) (readersOf p.mem) (by simp; omega)
      unfold insA at this
      rw [List.length_map] at this
      exact this
    by_cases h1 : e.epoch = p.epoch + 1
    · by_cases h2 : e.wraps.map Wp.who = readersOf p.mem
      · rw [decide_eq_true h2] at hE
        rw [decide_eq_true (show Fits p e from ⟨h1, h2⟩)]
        refine Run ?_ trivial trivial trivial trivial trivial trivial trivial trivial trivial @inAs_wk trivial trivial
        rfl
      · rw [decide_eq_false h2] at hE
        rw [decide_eq_false (fun h : Fits p e => h2 h.2)]
        refine Run ?_ trivial trivial trivial trivial trivial trivial trivial trivial trivial @inAs_wk trivial trivial
        rfl
    · rw [decide_eq_false (fun h : Fits p e => h1 h.1)]
      refine Run ?_ trivial trivial trivial trivial trivial trivial trivial trivial trivial @inAs_wk trivial trivial
      rfl
def mayN (p : Po) (e : En) : Int :=
  if ¬ (PoOk p ∧ EnOk e) then 10
  else if e.kind ≤ 2 then (if rightsOf p.mem e.writer < 2 then 30 else 0)
  else if e.kind ≠ 5 ∧ e.who = p.founder then 30
  else if rightsOf p.mem e.writer < 4 then 30
  else if e.kind = 5 ∧ ¬ Fits p e then 34
  else 0
theorem rightsOf_range : ∀ {ms : List Mb} (w : Int), (∀ m ∈ ms, 1 ≤ m.rights ∧ m.rights ≤ 7) → 0 ≤ rightsOf ms w ∧ rightsOf ms w ≤ 7
  | [], w, _ => by simp [rightsOf]
  | m :: ms, w, h => by
    unfold rightsOf
    split
    · have := h m (List.mem_cons_self ..); omega
    · exact rightsOf_range w fun x hx => h x (List.mem_cons_of_mem _ hx)
theorem MbOk.each {ms : List Mb} (h : MbOk ms) : ∀ m ∈ ms, 1 ≤ m.rights ∧ m.rights ≤ 7 := by
  intro m hm
  obtain ⟨k, hk, rfl⟩ := List.getElem_of_mem hm
  exact h.rights (List.getElem?_eq_getElem hk)
set_option maxHeartbeats 8000000 in
theorem may_val (p : Po) (e : En) (hm : p.mem.length ≤ 1000) (he : e.Mid) (hw : e.wraps.length ≤ 1000) : AVal Try.prog 32 [poA p, enA e] (.int .i64 (mayN p e)) := by
  refine AVal.mkw (by simp only [AV.shutL, poA_shut, enA_shut, Bool.and_self]) (by simp [AV.shut]) ?_
  refine ACalls_body Try.func32 rfl rfl ?_
  simp only [Try.ntmps32, List.length_cons, List.length_nil, Nat.reduceAdd, Nat.reduceSub, List.replicate_succ, List.replicate_zero, List.cons_append, List.nil_append]
  have hP := poright_val p (by omega)
  have hE := enright_val e he
  have hRi := rights_val p e.writer (by omega)
  unfold mayN
  by_cases hp : PoOk p
  · rw [decide_eq_true hp] at hP
    by_cases ho : EnOk e
    · rw [decide_eq_true ho] at hE
      rw [if_neg (by rw [Classical.not_not]; exact ⟨hp, ho⟩)]
      have hr := rightsOf_range (ms := p.mem) e.writer hp.1.each
      have hb6 := bits6 hr.1 hr.2
      have hb4 := bits4 hr.1 hr.2
      have hF := fits_val p e hp hm hw
      have hk1 := ho.1
      have hk5 := ho.2.1
      generalize rightsOf p.mem e.writer = rr at *
      by_cases hk : e.kind ≤ 2
      · rw [if_pos hk]
        by_cases h2 : rr < 2
        · rw [if_pos h2]
          rw [decide_eq_true h2] at hb6
          by_cases k1 : e.kind = 1
          · refine Run ?_ trivial trivial trivial trivial trivial trivial trivial trivial trivial trivial trivial trivial
            rfl
          · refine Run ?_ trivial trivial trivial trivial trivial trivial trivial trivial trivial trivial trivial trivial
            rfl
        · rw [if_neg h2]
          rw [decide_eq_false h2] at hb6
          by_cases k1 : e.kind = 1
          · refine Run ?_ trivial trivial trivial trivial trivial trivial trivial trivial trivial trivial trivial trivial
            rfl
          · refine Run ?_ trivial trivial trivial trivial trivial trivial trivial trivial trivial trivial trivial trivial
            rfl
      · rw [if_neg hk]
        by_cases k5 : e.kind = 5
        · rw [if_neg (fun h => h.1 k5)]
          by_cases h4 : rr < 4
          · rw [if_pos h4]
            rw [decide_eq_true h4] at hb4
            refine Run ?_ trivial trivial trivial trivial trivial trivial trivial trivial trivial trivial trivial trivial
            rfl
          · rw [if_neg h4]
            rw [decide_eq_false h4] at hb4
            by_cases hf : Fits p e
            · rw [if_neg (fun h => h.2 hf)]
              rw [decide_eq_true hf] at hF
              refine Run ?_ trivial trivial trivial trivial trivial trivial trivial trivial trivial trivial trivial trivial
              rfl
            · rw [if_pos ⟨k5, hf⟩]
              rw [decide_eq_false hf] at hF
              refine Run ?_ trivial trivial trivial trivial trivial trivial trivial trivial trivial trivial trivial trivial
              rfl
        · by_cases hfo : e.who = p.founder
          · rw [if_pos ⟨k5, hfo⟩]
            by_cases k3 : e.kind = 3
            · refine Run ?_ trivial trivial trivial trivial trivial trivial trivial trivial trivial trivial trivial trivial
              rfl
            · refine Run ?_ trivial trivial trivial trivial trivial trivial trivial trivial trivial trivial trivial trivial
              rfl
          · rw [if_neg (fun h => hfo h.2)]
            by_cases h4 : rr < 4
            · rw [if_pos h4]
              rw [decide_eq_true h4] at hb4
              by_cases k3 : e.kind = 3
              · refine Run ?_ trivial trivial trivial trivial trivial trivial trivial trivial trivial trivial trivial trivial
                rfl
              · refine Run ?_ trivial trivial trivial trivial trivial trivial trivial trivial trivial trivial trivial trivial
                rfl
            · rw [if_neg h4, if_neg (fun h => k5 h.1)]
              rw [decide_eq_false h4] at hb4
              by_cases k3 : e.kind = 3
              · refine Run ?_ trivial trivial trivial trivial trivial trivial trivial trivial trivial trivial trivial trivial
                rfl
              · refine Run ?_ trivial trivial trivial trivial trivial trivial trivial trivial trivial trivial trivial trivial
                rfl
    · rw [decide_eq_false ho] at hE
      rw [if_pos (fun h => ho h.2)]
      refine Run ?_ trivial trivial trivial trivial trivial trivial trivial trivial trivial trivial trivial trivial
      rfl
  · rw [decide_eq_false hp] at hP
    rw [if_pos (fun h => hp h.1)]
    refine Run ?_ trivial trivial trivial trivial trivial trivial trivial trivial trivial trivial trivial trivial
    rfl
end Go.Proofs.Ytaffpkogcpkmjaa
