/- The contract of code.Put, for any row of parts. -/
import Derived.Test.YtnjkklkjlloedaaCode2
import Derived.Lib.Hide
namespace Go.Proofs.Ytnjkklkjlloedaa
open Go.RowKit

/-- A part: a number, or a text. -/
abbrev Pt := Int ⊕ List UInt8
def ptErr : Pt → Int
  | .inl n => if 0 ≤ n ∧ n ≤ 1099511627776 then 0 else 12
  | .inr bs => if bs.length ≤ 4096 then 0 else 11
def ptB : Pt → List UInt8
  | .inl n => numB n.toNat
  | .inr bs => textB bs
def putErr : List Pt → Int
  | [] => 0
  | p :: r => if ptErr p = 0 then putErr r else ptErr p
def putB (ps : List Pt) : List UInt8 := ps.flatMap ptB

/-- v is the interface value of the part p. -/
def PtV (w : World) : Pt → Value → Prop
  | .inl n, v => v = .iface 3 (.int .i64 n)
  | .inr bs, v => (∃ A c, v = .iface 27 (.slice A bs.length c) ∧ Rd w 1 A bs.length c (bvs bs)) ∨ (v = .iface 9 (.string ⟨bs.toArray⟩) ∧ bs.length ≤ maxLen)
theorem PtV.below {w w' : World} {p : Pt} {v : Value} (h : PtV w p v) (hb : Below w.heap.size w w') : PtV w' p v := by
  cases p with
  | inl n => exact h
  | inr bs => exact h.imp (fun ⟨A, c, hv, hr⟩ => ⟨A, c, hv, hr.below hb⟩) id
theorem PtV.one {w : World} {p : Pt} {v : Value} (h : PtV w p v) : v.oneCell' = true := by
  cases p with
  | inl n => rw [show v = _ from h]; rfl
  | inr bs => rcases h with ⟨A, c, rfl, _⟩ | ⟨rfl, _⟩ <;> rfl

/-- nil, an error's number; the world is grown. -/
def ErrGrown (w : World) (n : Int) (e : Ending) (w' : World) : Prop := e = .returned (.tuple #[.slice none 0 0, .int .i64 n]) ∧ Below w.heap.size w w'

theorem part_ok (p : Pt) (v : Value) (w : World) (hv : PtV w p v) (h : ptErr p = 0) : Calls Try.prog 89 #[v] w (OkBytes w (ptB p)) := by
  cases p with
  | inl n =>
    rw [show v = _ from hv]
    simp only [ptErr] at h
    split at h
    · rename_i hn
      obtain ⟨m, rfl⟩ := Int.eq_ofNat_of_zero_le hn.1
      exact part_int_ok m w (by omega)
    · cases h
  | inr bs =>
    simp only [ptErr] at h
    split at h
    · rename_i hn
      rcases hv with ⟨A, c, rfl, hr⟩ | ⟨rfl, _⟩
      · exact part_bytes_ok A c bs w hn hr
      · exact part_string_ok bs w hn
    · cases h
theorem part_bad (p : Pt) (v : Value) (w : World) (hv : PtV w p v) (h : ptErr p ≠ 0) : Calls Try.prog 89 #[v] w (ErrGrown w (ptErr p)) := by
  cases p with
  | inl n =>
    rw [show v = _ from hv]
    simp only [ptErr] at h ⊢
    split at h
    · exact absurd rfl h
    · rename_i hn
      rw [if_neg hn]
      exact (part_int_bad n w (by omega)).mono fun e w' ⟨he, hw⟩ => ⟨he, hw ▸ Below.refl _ _⟩
  | inr bs =>
    simp only [ptErr] at h ⊢
    split at h
    · exact absurd rfl h
    · rename_i hn
      rw [if_neg hn]
      rcases hv with ⟨A, c, rfl, hr⟩ | ⟨rfl, hm⟩
      · exact (part_bytes_bad A _ c w (by omega) (Nat.le_trans hr.cap hr.max)).mono fun e w' ⟨he, hw⟩ => ⟨he, hw ▸ Below.refl _ _⟩
      · exact part_string_bad bs w (by omega) hm

theorem ptB_le (p : Pt) (h : ptErr p = 0) : (ptB p).length ≤ 4098 := by
  cases p with
  | inl n => simp [ptB, numB]
  | inr bs =>
    simp only [ptErr] at h
    split at h
    · simp [ptB, textB]; omega
    · cases h
theorem putB_le (ps : List Pt) (h : ∀ p ∈ ps, ptErr p = 0) : (putB ps).length ≤ 4098 * ps.length := by
  induction ps with
  | nil => simp [putB]
  | cons p r ih =>
    have h1 := ptB_le p (h p (by simp))
    have h2 := ih (fun q hq => h q (by simp [hq]))
    simp only [putB, List.flatMap_cons, List.length_append, List.length_cons] at h2 ⊢
    omega
theorem putB_snoc (ps : List Pt) (p : Pt) : putB (ps ++ [p]) = putB ps ++ ptB p := by simp [putB]
theorem putErr_ok (ps : List Pt) : putErr ps = 0 ↔ ∀ p ∈ ps, ptErr p = 0 := by
  induction ps with
  | nil => simp [putErr]
  | cons p r ih =>
    simp only [putErr, List.mem_cons, forall_eq_or_imp]
    by_cases h : ptErr p = 0
    · simp [h, ih]
    · simp [h]
theorem putErr_first (ps : List Pt) (k : Nat) (p : Pt) (hp : ps[k]? = some p) (h : ∀ q ∈ ps.take k, ptErr q = 0) (hne : ptErr p ≠ 0) : putErr ps = ptErr p := by
  induction ps generalizing k with
  | nil => simp at hp
  | cons q r ih =>
    cases k with
    | zero =>
      simp at hp
      subst hp
      simp [putErr, hne]
    | succ k =>
      have hq : ptErr q = 0 := h q (by simp)
      simp only [putErr, hq, if_true]
      exact ih k (by simpa using hp) (fun s hs => h s (by simp [hs]))
theorem take_snoc {α : Type} (l : List α) (k : Nat) (p : α) (h : l[k]? = some p) : l.take (k + 1) = l.take k ++ [p] := by
  rw [List.take_add_one, h]; rfl

/-- What Put answers. -/
def PutPost (ps : List Pt) (w : World) (e : Ending) (w' : World) : Prop :=
  (putErr ps = 0 ∧ OkBytes w (putB ps) e w') ∨ (putErr ps ≠ 0 ∧ ErrGrown w (putErr ps) e w')
/-- At the head of Put's loop. -/
def PutRel (ps : List Pt) (w : World) (v i : Value) (wr : World) : Prop :=
  ∃ k A c, k ≤ ps.length ∧ i = .int .i64 (k : Nat) ∧ v = .slice A (putB (ps.take k)).length c ∧ Seg wr w.heap.size 1 A (putB (ps.take k)).length c (bvs (putB (ps.take k))) ∧ Below w.heap.size w wr ∧ (∀ p ∈ ps.take k, ptErr p = 0)
theorem PutRel.next {ps : List Pt} {w wr : World} {A : Option Addr} {c k : Nat} (p : Pt) (hp : ps[k]? = some p) (he : ptErr p = 0) (hall : ∀ p ∈ ps.take k, ptErr p = 0) (hb : Below w.heap.size w wr)
    (hs : Seg wr w.heap.size 1 A ((putB (ps.take k)).length + (ptB p).length) c (bvs (putB (ps.take k)) ++ bvs (ptB p))) :
    PutRel ps w (.slice A ((putB (ps.take k)).length + (ptB p).length) c) (.int .i64 ((k : Int) + 1)) wr := by
  have hk : k < ps.length := (List.getElem?_eq_some_iff.1 hp).1
  refine ⟨k + 1, A, c, hk, rfl, ?_, ?_, hb, ?_⟩
  · rw [take_snoc ps k p hp, putB_snoc, List.length_append]
  · rw [take_snoc ps k p hp, putB_snoc, List.length_append, bvs_append]; exact hs
  · rw [take_snoc ps k p hp]
    intro q hq
    rcases List.mem_append.1 hq with h | h
    · exact hall q h
    · rw [List.mem_singleton.1 h]; exact he

set_option maxHeartbeats 1000000 in
theorem Put_any (ps : List Pt) (A0 : Option Addr) (c0 : Nat) (vs : List Value) (w : World) (hr : Rd w 1 A0 ps.length c0 vs) (hv : ∀ (k : Nat) (p : Pt) (v : Value), ps[k]? = some p → vs[k]? = some v → PtV w p v) (hn : ps.length ≤ 100000) :
    Calls Try.prog 72 #[.slice A0 ps.length c0] w (PutPost ps w) := by
  go_enter Try.func72, Try.ntmps72
  go_wp2_with fail
  go_loopw [4, 11] (fun v i wr => PutRel ps w v i wr) (fun _ i _ => ps.length - (intOf i).toNat)
  case atStart => exact ⟨0, none, 0, Nat.zero_le _, rfl, rfl, Seg.nil _ _ _, Below.refl _ _, by simp⟩
  case round =>
    obtain ⟨k, A, c, hk, rfl, rfl, hs, hb, hall⟩ := hrel
    by_cases hlt : k < ps.length
    · obtain ⟨b, o, rfl, hc⟩ := hr.at_ (by omega)
      obtain ⟨p, hp⟩ : ∃ p, ps[k]? = some p := ⟨ps[k], List.getElem?_eq_getElem hlt⟩
      have hvl := hr.len
      obtain ⟨v, hvv⟩ : ∃ v, vs[k]? = some v := ⟨vs[k]'(by omega), List.getElem?_eq_getElem (by omega)⟩
      have hcell := hc k v hvv
      have hpv := (hv k p v hp hvv).below hb
      have hcell' : wr.cell? ⟨b, o + k, none⟩ = some v := (hb.cell (p := ⟨b, o + k, none⟩) (World.block_lt_of_cell? w _ hcell)).trans hcell
      have H := Lib.hid hall
      have HP := Lib.hid hp
      have hpl := putB_le _ hall
      have hle : (ps.take k).length ≤ k := List.length_take_le _ _
      clear hall hp hvv hvl hc hv hcell
      by_cases he : ptErr p = 0
      · have hp2 := ptB_le p he
        have HE := Lib.hid he
        clear he
        go_wp2_with fail
        refine (part_ok p v wr hpv HE.out).mono ?_
        rintro e w1 ⟨A1, c1, rfl, hs1, hb1⟩
        have hs' := hs.below hb1
        have hb' := hb.trans (hb1.mono hb.size)
        have hsz := hb'.size
        go_wp2_with (at_builtin; refine wpList_append_seg rfl _ _ _ _ rfl ei_u8 rfl hs' rfl (hs1.rd.src Try.underlying27 (bvs_one _)) (by simp only [maxLen]; omega) (by omega) hsz ?_; intro A' c' w' hs2 hg _)
        have hb2 := hb'.grown hg hsz (fun k hk => by cases A with | none => simp at hk | some a => have := hs'.base_le a rfl; simp at hk; omega)
        go_roundw
        case rel => exact PutRel.next p HP.out HE.out H.out hb2 hs2
        case measure => simp [intOf]; omega
      · have HE := Lib.hid he
        clear he
        go_wp2_with fail
        refine (part_bad p v wr hpv HE.out).mono ?_
        rintro e w1 ⟨rfl, hb1⟩
        have hne : (ptErr p != 0) = true := by simpa using HE.out
        go_wp2
        go_ret2
        exact .inr ⟨by rw [putErr_first ps k p HP.out H.out HE.out]; exact HE.out, by rw [putErr_first ps k p HP.out H.out HE.out]; rfl, hb.trans (hb1.mono hb.size)⟩
    · have hke : k = ps.length := by omega
      have H : Hid (∀ p ∈ ps.take k, ptErr p = 0) := Lib.hid hall
      have HK := Lib.hid hke
      clear hall hke hv
      go_wp2
      go_ret2
      have hke := HK.out
      subst hke
      have H' := H.out
      rw [List.take_length] at hs H' ⊢
      exact .inl ⟨(putErr_ok ps).2 H', A, c, rfl, hs, hb⟩
end Go.Proofs.Ytnjkklkjlloedaa
