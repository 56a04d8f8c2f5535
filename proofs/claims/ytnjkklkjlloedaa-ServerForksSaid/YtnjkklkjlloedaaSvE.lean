/- server: Handle, by the abstract machine. -/
import Derived.Test.YtnjkklkjlloedaaSvD
import Derived.Test.YtnjkklkjlloedaaFrD
namespace Go.Proofs.Ytnjkklkjlloedaa
open Go.RowKit
set_option linter.unusedVariables false
set_option linter.unusedSimpArgs false
set_option maxRecDepth 10000
theorem addL_ok {lg : List (List UInt8)} {b : List UInt8} (h : LksOk lg) (hb : 1 ≤ b.length ∧ b.length ≤ 4096) : LksOk (addL lg b) := by
  unfold addL
  split
  · exact h
  · intro x hx
    rcases List.mem_append.1 hx with hx | hx
    · exact h x hx
    · rw [List.mem_singleton.1 hx]; exact hb
theorem addAll_ok : ∀ {ls lg : List (List UInt8)}, LksOk lg → LksOk ls → LksOk (addAll lg ls)
  | [], lg, h, _ => h
  | x :: r, lg, h, hr => addAll_ok (ls := r) (addL_ok h (hr x (List.mem_cons_self ..))) (fun b hb => hr b (List.mem_cons_of_mem _ hb))
theorem addL_ge (lg : List (List UInt8)) (b : List UInt8) : 0 < (addL lg b).length := by
  unfold addL
  split
  · rename_i h; exact List.length_pos_of_mem h
  · simp
theorem addAll_ge : ∀ (ls lg : List (List UInt8)), 0 < lg.length → 0 < (addAll lg ls).length
  | [], lg, h => h
  | x :: r, lg, h => addAll_ge r _ (addL_ge lg x)
theorem addAll_pos {ls lg : List (List UInt8)} (h : 0 < ls.length) : 0 < (addAll lg ls).length := by
  cases ls with
  | nil => simp at h
  | cons x r => exact addAll_ge r _ (addL_ge lg x)
theorem setL_mem : ∀ {L : Lg} {k : Int × Int} {v : List (List UInt8)} {e : (Int × Int) × List (List UInt8)}, e ∈ setL L k v → e = (k, v) ∨ e ∈ L
  | [], k, v, e, h => .inl (List.mem_singleton.1 h)
  | x :: r, k, v, e, h => by
    simp only [setL] at h
    split at h
    · rcases List.mem_cons.1 h with h | h
      · exact .inl h
      · exact .inr (List.mem_cons_of_mem _ h)
    · rcases List.mem_cons.1 h with h | h
      · exact .inr (h ▸ List.mem_cons_self ..)
      · exact (setL_mem h).imp id (List.mem_cons_of_mem _)
theorem LgOk.nil : LgOk [] := ⟨fun k b hb => absurd hb (List.not_mem_nil), fun k => Nat.zero_le _⟩
theorem LgOk.set {L : Lg} (h : LgOk L) (k : Int × Int) (v : List (List UInt8)) (h1 : LksOk v) (h2 : 0 < v.length) (h3 : v.length ≤ 64) : LgOk (setL L k v) := by
  refine ⟨fun q => ?_, fun q => ?_⟩
  · rw [getL_set]
    split
    · exact h1
    · exact h.links q
  · rw [getL_set]
    split
    · exact h3
    · exact h.most q
theorem LgOk.push {L : Lg} (h : LgOk L) (k : Int × Int) (ls : List (List UInt8)) (hls : LksOk ls) (hl : 1 ≤ ls.length) : LgOk (pushL L k ls) := by
  unfold pushL
  split
  · exact h
  · exact h.set k _ (addAll_ok (h.links k) hls) (addAll_pos hl) (by omega)
theorem getL_push (L : Lg) (k q : Int × Int) (ls : List (List UInt8)) : getL (pushL L k ls) q = if q = k then (if 64 < (addAll (getL L k) ls).length then getL L k else addAll (getL L k) ls) else getL L q := by
  unfold pushL
  by_cases h : 64 < (addAll (getL L k) ls).length
  · rw [if_pos h, if_pos h]
    by_cases hq : q = k
    · rw [if_pos hq, hq]
    · rw [if_neg hq]
  · rw [if_neg h, if_neg h, getL_set]
theorem frB_le {f : Fr} (h : FrOk f) : (frB f).length ≤ 53274 := by
  have h1 := putB_le (frP f) (fun p hp => by
    have h2 := (putErr_ok _).1 h.put
    exact h2 p hp)
  have h3 := h.links.1
  have h4 : (frP f).length = f.links.length + 5 := by simp [frP]
  rw [h4] at h1
  have h5 : (frB f).length = (putB (frP f)).length := rfl
  omega
theorem dec_frB {f : Fr} (h : FrOk f) : AVal Try.prog 23 [bsA (frB f)] (if 32768 < (frB f).length then .tup [frA zeroF, .int .i64 11] else .tup [frA f, .int .i64 0]) := by
  have h1 := decode_val (frB f) (by have := frB_le h; omega)
  rw [decR] at h1
  rw [if_pos (dec_ok h).1, (dec_ok h).2] at h1
  exact h1
theorem handle_push (L : Lg) (hL : LgOk L) (br : Int) (h0 : 0 ≤ br) (h1 : br < 2) (f : Fr) (hf : FrOk f) (hk : f.kind = 1) (s m : Int) : ASys Try.prog 19 [.ptr s 0, .int .i64 br, bsA (frB f)] (erA (if 32768 < (frB f).length then 11 else pushE L (br, f.coll) f.links)) [(s, [.map m], [.map m])] [(m, mpT L, mpT (if 32768 < (frB f).length then L else pushL L (br, f.coll) f.links))] := by
  refine SvSys.mk (by simp only [AV.shutL, AV.shut, shutL_bvA, Bool.and_self]) (erA_shut _) ?_
  refine ACalls_body Try.func19 rfl rfl ?_
  simp only [Try.ntmps19, List.length_cons, List.length_nil, Nat.reduceAdd, Nat.reduceSub, List.replicate_succ, List.replicate_zero, List.cons_append, List.nil_append]
  have e1 := dec_frB hf
  by_cases h2 : 32768 < (frB f).length
  · rw [if_pos h2] at e1 ⊢
    rw [if_pos h2]
    refine Run ?_ trivial trivial trivial trivial trivial trivial trivial trivial trivial trivial trivial trivial
    exact ⟨rfl, by show (2 : Int) ≤ 4; omega, rfl, rfl⟩
  · rw [if_neg h2] at e1 ⊢
    rw [if_neg h2]
    have hl := hf.links
    have hi := hf
    obtain ⟨c1, c2, c3, c4, c5⟩ := hi
    obtain ⟨kind, c, i, ls, sm⟩ := f
    simp only at hk hl c1 c2 c3 c4 c5 e1
    subst hk
    have hls : 1 ≤ ls.length := by
      rcases c5 with ⟨_, h, _⟩ | h | h | h
      · have := h.1; omega
      · omega
      · omega
      · omega
    have e2 := push_sys L hL br c ⟨by omega, by omega⟩ ⟨by omega, by omega⟩ ls hl.2 ⟨hls, hl.1⟩ 0 1
    simp only [frA] at e1
    clear c5
    generalize pushE L (br, c) ls = er at e2 ⊢
    refine Run ?_ trivial trivial trivial trivial trivial trivial trivial trivial trivial trivial trivial trivial
    exact ⟨rfl, by show (2 : Int) ≤ 4; omega, rfl, rfl⟩
theorem pull_len {f : Fr} (hf : FrOk f) (hk : f.kind = 2) : (frB f).length = 26 := by
  obtain ⟨_, _, _, _, h | h | h | h⟩ := hf
  · omega
  · rw [frB_eq, List.eq_nil_of_length_eq_zero h.2.1, List.eq_nil_of_length_eq_zero h.2.2]
    simp [numB, textB]
  · omega
  · omega
theorem handle_pull (L : Lg) (hL : LgOk L) (br : Int) (h0 : 0 ≤ br) (h1 : br < 2) (f : Fr) (hf : FrOk f) (hk : f.kind = 2) (s m : Int) : ASys Try.prog 19 [.ptr s 0, .int .i64 br, bsA (frB f)] (pullR f.coll (getL L (br, f.coll)) f.idx.toNat) [(s, [.map m], [.map m])] [(m, mpT L, mpT L)] := by
  refine SvSys.mk (by simp only [AV.shutL, AV.shut, shutL_bvA, Bool.and_self]) (pullR_shut _ _ _) ?_
  refine ACalls_body Try.func19 rfl rfl ?_
  simp only [Try.ntmps19, List.length_cons, List.length_nil, Nat.reduceAdd, Nat.reduceSub, List.replicate_succ, List.replicate_zero, List.cons_append, List.nil_append]
  have e1 := dec_frB hf
  rw [if_neg (by rw [pull_len hf hk]; omega)] at e1
  obtain ⟨c1, c2, c3, c4, c5⟩ := hf
  obtain ⟨kind, c, i, ls, sm⟩ := f
  simp only at hk c1 c2 c3 c4 c5 e1
  subst hk
  obtain ⟨k, rfl⟩ := Int.eq_ofNat_of_zero_le c3
  have e2 := pull_sys L hL br c ⟨by omega, by omega⟩ ⟨c1, c2⟩ k (by omega) 0 1
  simp only [frA] at e1
  clear c5
  obtain ⟨v, x, hp⟩ : ∃ v x, pullR c (getL L (br, c)) k = .tup [bsA v, .int .i64 x] := by
    unfold pullR
    split
    · exact ⟨_, _, rfl⟩
    · exact ⟨_, _, rfl⟩
  simp only [Int.toNat_natCast]
  rw [hp] at e2 ⊢
  refine Run ?_ trivial trivial trivial trivial trivial trivial trivial trivial trivial trivial trivial trivial
  exact ⟨by simp only [aone, AV.wk, AV.wkL, AV.wkL_bvA], by show (2 : Int) ≤ 4; omega, rfl, rfl⟩
end Go.Proofs.Ytnjkklkjlloedaa
