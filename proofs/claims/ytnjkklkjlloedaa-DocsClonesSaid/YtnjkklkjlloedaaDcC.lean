/- docs: a copy; are two the same? by the abstract machine. -/
import Derived.Test.YtnjkklkjlloedaaDcB
namespace Go.Proofs.Ytnjkklkjlloedaa
open Go.RowKit
set_option linter.unusedVariables false
set_option linter.unusedSimpArgs false
set_option maxRecDepth 10000
theorem newMap_ok {base : Nat} {Fi : Int → Prop} {M : MM} {w : World} {objs : List (Int × List AV)} {toks : List (Int × Tq)} {next : Int} (S : St base Fi M w ⟨objs, toks, next⟩) {sh : KSh} (hp : sh.plain = true) {kvs kvs0 : List (AV × AV)} {es : Array MapEntry} {c : Nat} (h4 : Go.MapKept.Stamped es c) (h5 : MapRel M w sh kvs0 es.toList) (h6 : kvs0.Perm kvs) :
    St base Fi (M.obj next w.heap.size) (w.alloc (.map es c)) ⟨objs, (next, .mp sh kvs) :: toks, next + 1⟩ ∧ Stp base Fi M w (M.obj next w.heap.size) (w.alloc (.map es c)) := by
  have T := Stp.newObj S (.map es c)
  refine ⟨?_, T⟩
  have hsz : (w.alloc (.map es c)).heap.size = w.heap.size + 1 := by simp
  have N := St.newObj S (cells := []) (vs := #[]) RepsL.nil 0
  have hold : ∀ b, b < w.heap.size → (w.alloc (.map es c)).heap[b]? = w.heap[b]? := fun b hb => Below.heap_alloc w _ b hb
  refine ⟨by have := S.base_le; omega, fun id cs hl => ?_, fun id top hl => ?_, fun id s kvs hl => ?_, N.inj, N.dis, N.tinj, fun i q h => by rw [hsz]; have := N.obsz i q h; simpa using this, fun i Tk q e ce h1 h2 => by rw [hsz]; have := N.tksz i Tk q e ce h1 h2; simpa using this, N.fresh⟩
  · obtain ⟨h1, b, us, e', h2, h3, h4, h5⟩ := S.obs id cs hl
    exact ⟨h1, b, us, e', T.ob _ _ h2, h3, by rw [hold b (S.obsz id b h2)]; exact h4, RepsL.stp T _ _ h5⟩
  · simp only [alook] at hl
    split at hl
    · cases hl
    · obtain ⟨h1, Tk, h2, h3, h4⟩ := S.tks id top hl
      refine ⟨h1, Tk, h2, h3, fun b e2 ce hb => ?_⟩
      obtain ⟨h5, h6⟩ := h4 b e2 ce hb
      exact ⟨h5, h6.heap (hold b (S.tksz id Tk b e2 ce h2 hb))⟩
  · simp only [alook] at hl
    split at hl
    · rename_i he
      subst he
      cases hl
      exact ⟨(S.fresh _ (Int.le_refl _)).2.2, MapAt.put hp w.heap.size es c (by simp [MM.obj]) S.base_le (heap_alloc_new w _) h4 (h5.map fun x v _ g => Reps.stp T x v g) h6⟩
    · exact ⟨(S.mps id s kvs hl).1, (S.mps id s kvs hl).2.stp T fun b o h1 h2 _ => by rw [hold b (S.obsz id b h1)]; exact h2⟩
/-- maps.Clone. -/
theorem mclone_calls {objs : List (Int × List AV)} {toks : List (Int × Tq)} {next id : Int} {kvs : List (AV × AV)} (ho : alook toks id = some (.mp (.one .str) kvs)) : ACalls Try.prog 70 [.map id] ⟨objs, toks, next⟩ (fun rv σ' => rv = .map next ∧ σ' = ⟨objs, (next, .mp (.one .str) kvs) :: toks, next + 1⟩) := by
  intro base Fi M w vs S hr
  unfold RepsL at hr
  obtain ⟨v0, vr, rfl, hr0, hr1⟩ := hr
  unfold RepsL at hr1
  subst hr1
  unfold Reps at hr0
  obtain ⟨b, hb, rfl⟩ := hr0
  obtain ⟨b', es, c, kvs0, g1, g2, g3, g4, g5, hP⟩ := (S.mps id (.one .str) kvs ho).2.get rfl
  rw [hb] at g1; cases g1
  refine (AnyW.maps_Clone Try.itClone b es c w g3).mono ?_
  rintro e w' ⟨rfl, rfl⟩
  obtain ⟨N, T⟩ := newMap_ok S (sh := .one .str) rfl g4 g5 hP
  exact ⟨.map next, _, M.obj next w.heap.size, .map (some w.heap.size), ⟨rfl, rfl⟩, rfl, by unfold Reps; exact ⟨w.heap.size, by simp [MM.obj], rfl⟩, N, T⟩
theorem St.unst {base : Nat} {Fi : Int → Prop} {M : MM} {w : World} {σ : ASt} (S : St base Fi M w σ) {id : Int} {sh : KSh} {kvs kvs' : List (AV × AV)} {mb c : Nat} {bs : List Nat} (hp : sh.plain = true) (ho : alook σ.toks id = some (.mp (.st sh mb bs c) kvs)) (hP : kvs.Perm kvs') : St base Fi M w ⟨σ.objs, aset σ.toks id (.mp sh kvs'), σ.next⟩ := by
  obtain ⟨hF, b, o, h1, h2, h3, h4⟩ := S.mps id _ kvs ho
  obtain ⟨rfl, es, rfl, h5, h6, h7⟩ := h4.ofSt
  refine ⟨S.base_le, S.obs, fun i t hl => ?_, fun i s ks hl => ?_, S.inj, S.dis, S.tinj, S.obsz, S.tksz, S.fresh⟩
  · simp only [alook_aset] at hl
    split at hl
    · rw [ho] at hl; cases hl
    · exact S.tks i t hl
  · simp only [alook_aset] at hl
    split at hl
    · rename_i he
      subst he
      rw [ho] at hl; cases hl
      exact ⟨hF, MapAt.put hp b es c h1 h2 h3 h5 h6 hP⟩
    · exact S.mps i s ks hl
theorem meq_calls (D1 D2 : Dm) (h1 : DmOk D1) (h2 : DmOk D2) : ACalls Try.prog 69 [.map 0, .map 1] ⟨[], [(0, mpD D1), (1, mpD D2)], 2⟩ (fun rv σ1 => rv = .bool (decide (D1 = D2)) ∧ 2 ≤ σ1.next ∧ alook σ1.toks 1 = some (mpD D2) ∧ (alook σ1.toks 0 = some (mpD D1) ∨ ∃ mb bs c kvs, alook σ1.toks 0 = some (.mp (.st (.one .str) mb bs c) kvs) ∧ kvs.Perm (dcA D1))) := by
  refine ACalls_body Try.func69 rfl rfl ?_
  simp only [Try.ntmps69, List.length_cons, List.length_nil, Nat.reduceAdd, Nat.reduceSub, List.replicate_succ, List.replicate_zero, List.cons_append, List.nil_append]
  refine Run ?_ trivial trivial trivial trivial trivial trivial trivial trivial trivial trivial trivial trivial
  with_reducible apply S_len_map
  case hx => rfl
  case ho => rfl
  case hp => rfl
  case hs => exact aput_ok rfl
  refine Run ?_ trivial trivial trivial trivial trivial trivial trivial trivial trivial trivial trivial trivial
  with_reducible apply S_len_map
  case hx => rfl
  case ho => rfl
  case hp => rfl
  case hs => exact aput_ok rfl
  simp only [dcA, List.length_map]
  by_cases hl : D1.length = D2.length
  case neg =>
    have hne : D1 ≠ D2 := fun h => hl (by rw [h])
    rw [decide_eq_false hne]
    refine Run ?_ trivial trivial trivial trivial trivial trivial trivial trivial trivial trivial trivial trivial
    exact ⟨rfl, Int.le_refl _, rfl, .inl rfl⟩
  have hl2 : (D1.length : Int) = (D2.length : Int) := by rw [hl]
  refine Run ?_ trivial trivial trivial trivial trivial trivial trivial trivial trivial trivial trivial trivial
  refine AOPS_st (id := 0) rfl rfl ?_
  intro kvs0 mb bs c hP hnd hbl hbn hbc
  simp only [aset, if_true]
  obtain ⟨D0, hD0, rfl⟩ := perm_map_inv hP rfl
  with_reducible apply S_range (id := 0)
  case hx => rfl
  case ho => rfl
  case hs => exact aput_ok rfl
  case hn => rfl
  refine Run ?_ trivial trivial trivial trivial trivial trivial trivial trivial trivial trivial trivial trivial
  refine AWP_loopS [4, 5, 6, 7, 8, 16, 17, 18, 19, 20, 21, 22, 23, 24, 25, 26, 27, 28, 29, 30, 31, 32, 33] (N := List Nat × List AV) (fun ⟨seen, js⟩ => [js.getD 0 .und, js.getD 1 .und, js.getD 2 .und, js.getD 3 .und, js.getD 4 .und, js.getD 5 .und, js.getD 6 .und, js.getD 7 .und, js.getD 8 .und, js.getD 9 .und, js.getD 10 .und, js.getD 11 .und, js.getD 12 .und, js.getD 13 .und, js.getD 14 .und, js.getD 15 .und, js.getD 16 .und, js.getD 17 .und, js.getD 18 .und, js.getD 19 .und, js.getD 20 .und, js.getD 21 .und, js.getD 22 .und]) (fun ⟨seen, js⟩ => ⟨[], [(2, .mp (.itr mb c seen c) []), (0, .mp (.st (.one .str) mb bs c) (D0.map fun e => (.str e.1, .str e.2))), (1, .mp (.one .str) (D2.map fun e => (.str e.1, .str e.2)))], 3⟩) (fun ⟨seen, js⟩ => ∀ (i b : Nat) (d : Nm × Nm), bs[i]? = some b → D0[i]? = some d → b ∈ seen → dget D2 d.1 = some d.2) (fun ⟨seen, js⟩ => lft c seen) ⟨[], [_, _, _, _, _, _, _, _, _, _, _, _, _, _, _, _, _, _, _, _, _, _, _]⟩ rfl rfl ?hi0 ?_
  rotate_left
  rintro ⟨seen, js⟩ sl_ hs hi
  simp only [setsF, setF, Option.some.injEq] at hs
  subst hs
  case hi0 => exact fun i b d _ _ h => by cases h
  refine Run ?_ trivial trivial trivial trivial trivial trivial trivial trivial trivial trivial trivial trivial
  with_reducible apply S_next (id := 0)
  case hx => rfl
  case hm => rfl
  case ho => rfl
  case hg =>
    cases hbs : bs with
    | nil => exact .inr (.inl rfl)
    | cons b r => exact .inr (.inr ⟨b, List.mem_cons_self .., hbc b (by rw [hbs]; exact List.mem_cons_self ..)⟩)
  case h0 =>
    intro hd
    simp only [aput]
    have heq : D1 = D2 := by
      refine dm_eq h1 h2 (fun e he => ?_) hl
      obtain ⟨i, hie⟩ := List.getElem?_of_mem (hD0.mem_iff.2 he)
      have hil := (List.getElem?_eq_some_iff.1 hie).1
      rw [List.length_map] at hbl
      have hb := List.getElem?_eq_getElem (show i < bs.length by omega)
      have := hi _ _ _ hb hie (hd _ (List.getElem_mem _) (hbc _ (List.getElem_mem _)))
      exact dget_in h2 this
    rw [decide_eq_true heq]
    refine Run ?_ trivial trivial trivial trivial trivial trivial trivial trivial trivial trivial trivial trivial
    exact ⟨rfl, by show (2 : Int) ≤ 3; omega, rfl, .inr ⟨_, _, _, _, rfl, dcA_perm hD0⟩⟩
  case h1 =>
    intro i b ka va g1 g2 g3
    obtain ⟨d, hd, rfl, rfl⟩ : ∃ d, D0[i]? = some d ∧ ka = .str d.1 ∧ va = .str d.2 := by
      rw [List.getElem?_map] at g1
      cases hd : D0[i]? with
      | none => rw [hd] at g1; cases g1
      | some d =>
        rw [hd] at g1
        simp only [Option.map_some, Option.some.injEq, Prod.mk.injEq] at g1
        exact ⟨d, rfl, g1.1.symm, g1.2.symm⟩
    have hdm : d ∈ D1 := hD0.mem_iff.1 (List.mem_of_getElem? hd)
    simp only [aput, aset, if_true]
    refine Run ?_ trivial trivial trivial trivial trivial trivial trivial trivial trivial trivial trivial trivial
    with_reducible apply S_entry (id := 0) (i := i)
    case hx => rfl
    case hm => rfl
    case ho => rfl
    case hk => rw [List.getElem?_map, hd]; rfl
    case hbi => exact g2
    case hs => exact aput_ok rfl
    rcases dm_cases h2 d.1 with ⟨c1, c2, _⟩ | ⟨l1, w, l2, c1, c2, _⟩
    · have c5 : ∀ p ∈ D2.map (fun e : Nm × Nm => (AV.str e.1, AV.str e.2)), p.1 ≠ AV.str d.1 := dcA_out c1
      have hne : D1 ≠ D2 := fun h => c1 d (h ▸ hdm) rfl
      rw [decide_eq_false hne]
      refine Run ?_ trivial trivial trivial trivial trivial trivial trivial trivial trivial trivial trivial trivial
      exact ⟨rfl, by show (2 : Int) ≤ 3; omega, rfl, .inr ⟨_, _, _, _, rfl, dcA_perm hD0⟩⟩
    · have c6 : (AV.str d.1, AV.str w) ∈ D2.map (fun e : Nm × Nm => (AV.str e.1, AV.str e.2)) := dcA_in (e := (d.1, w)) (by rw [c1]; simp)
      by_cases hv : d.2 = w
      · refine Run ?_ trivial trivial trivial trivial trivial trivial trivial trivial trivial trivial trivial trivial
        refine ALoopQ_normal ⟨seen ++ [b], [_, _, _, _, _, _, _, _, _, _, _, _, _, _, _, _, _, _, _, _, _, _, _]⟩ rfl rfl ?hi1 ?hm1
        case hi1 =>
          intro j b' d' k1 k2 k3
          rcases List.mem_append.1 k3 with k3 | k3
          · exact hi j b' d' k1 k2 k3
          · rw [List.mem_singleton] at k3
            subst k3
            obtain ⟨q1, q2⟩ := List.getElem?_eq_some_iff.1 k1
            obtain ⟨q3, q4⟩ := List.getElem?_eq_some_iff.1 g2
            have : i = j := by
              rcases Nat.lt_trichotomy i j with h | h | h
              · exact absurd (q4.trans q2.symm) (List.pairwise_iff_getElem.1 hbn i j q3 q1 h)
              · exact h
              · exact absurd (q2.trans q4.symm) (List.pairwise_iff_getElem.1 hbn j i q1 q3 h)
            subst this
            rw [hd] at k2; cases k2
            rw [c2, hv]
        case hm1 => exact lft_lt (hbc b (List.mem_of_getElem? g2)) g3
      · have hne : D1 ≠ D2 := fun h => hv (by
          have := dget_mem h2 (h ▸ hdm)
          rw [c2] at this
          exact (Option.some.inj this).symm)
        rw [decide_eq_false hne]
        refine Run ?_ trivial trivial trivial trivial trivial trivial trivial trivial trivial trivial trivial trivial
        exact ⟨rfl, by show (2 : Int) ≤ 3; omega, rfl, .inr ⟨_, _, _, _, rfl, dcA_perm hD0⟩⟩
theorem meq_sys (D1 D2 : Dm) (h1 : DmOk D1) (h2 : DmOk D2) (m1 m2 : Int) : ASys Try.prog 69 [.map m1, .map m2] (.bool (decide (D1 = D2))) [] [(m1, mpD D1, mpD D1), (m2, mpD D2, mpD D2)] := by
  refine ASys.mk (args0 := [.map 0, .map 1]) (zo := []) (zt := [(0, mpD D1, mpD D1), (1, mpD D2, mpD D2)]) 2 (fun i => if i = 0 then m1 else m2) rfl rfl rfl (by omega) ?_ ?_ ?_ rfl ?_ ?_ ?_
  · intro i h0 h1
    simp [sysIds]
    omega
  · intro i hi
    simp [sysIds] at hi
    omega
  · simp [sysIds]
  · intro e he; cases he
  · simp [AV.shut]
  intro base Fi M w vs S hr
  refine (meq_calls D1 D2 h1 h2 base Fi M w vs S hr).mono ?_
  rintro e w' ⟨r, σ', M', v, ⟨rfl, k2, k3, k4⟩, he, hv, S', T'⟩
  rcases k4 with k4 | ⟨mb, bs, c, kvs, k4, k5⟩
  · refine ⟨_, σ', M', v, ⟨rfl, k2, (fun e he => by cases he), fun e he => ?_⟩, he, hv, S', T'⟩
    rcases List.mem_cons.1 he with rfl | he
    · exact k4
    · rw [List.mem_singleton.1 he]; exact k3
  · refine ⟨_, ⟨σ'.objs, aset σ'.toks 0 (mpD D1), σ'.next⟩, M', v, ⟨rfl, k2, (fun e he => by cases he), fun e he => ?_⟩, he, hv, S'.unst rfl k4 k5, T'⟩
    rcases List.mem_cons.1 he with rfl | he
    · simp only [alook_aset, if_true, k4, Option.map_some]
    · rw [List.mem_singleton.1 he]
      simp only [alook_aset]
      rw [if_neg (by decide)]
      exact k3
theorem dsame_sys (D1 D2 : Dm) (h1 : DmOk D1) (h2 : DmOk D2) (s1 s2 m1 m2 : Int) : ASys Try.prog 42 [.ptr s1 0, .ptr s2 0] (.bool (decide (D1 = D2))) [(s1, [.map m1], [.map m1]), (s2, [.map m2], [.map m2])] [(m1, mpD D1, mpD D1), (m2, mpD D2, mpD D2)] := by
  refine ASys.mk (args0 := [.ptr 0 0, .ptr 1 0]) (zo := [(0, [.map 2], [.map 2]), (1, [.map 3], [.map 3])]) (zt := [(2, mpD D1, mpD D1), (3, mpD D2, mpD D2)]) 4 (fun i => if i = 0 then s1 else if i = 1 then s2 else if i = 2 then m1 else m2) rfl rfl rfl (by omega) ?_ ?_ ?_ rfl ?_ ?_ ?_
  · intro i h0 h1
    simp [sysIds]
    omega
  · intro i hi
    simp [sysIds] at hi
    omega
  · simp [sysIds]
  · intro e he
    rcases List.mem_cons.1 he with rfl | he
    · exact ⟨rfl, rfl⟩
    · rw [List.mem_singleton.1 he]; exact ⟨rfl, rfl⟩
  · simp [AV.shut]
  simp only [List.map_cons, List.map_nil]
  refine ACalls_body Try.func42 rfl rfl ?_
  simp only [Try.ntmps42, List.length_cons, List.length_nil, Nat.reduceAdd, Nat.reduceSub, List.replicate_succ, List.replicate_zero, List.cons_append, List.nil_append]
  have e1 := meq_sys D1 D2 h1 h2 2 3
  refine Run ?_ trivial trivial trivial trivial trivial trivial trivial trivial trivial trivial trivial trivial
  refine ⟨rfl, Int.le_refl _, fun e he => ?_, fun e he => ?_⟩
  · rcases List.mem_cons.1 he with rfl | he
    · rfl
    · rw [List.mem_singleton.1 he]; rfl
  · rcases List.mem_cons.1 he with rfl | he
    · rfl
    · rw [List.mem_singleton.1 he]; rfl
end Go.Proofs.Ytnjkklkjlloedaa
