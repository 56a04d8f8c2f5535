/- Contracts of code's Reader: get, Number, Text, End, Bad, Read. -/
import Derived.Test.YtnjkklkjlloedaaCode4
namespace Go.Proofs.Ytnjkklkjlloedaa
open Go.RowKit

def rtake (n : Nat) (s : RS) : List UInt8 × RS := if s.2 = true ∨ s.1.length < n then ([], (s.1, true)) else (s.1.take n, (s.1.drop n, false))
theorem rget_take (n : Nat) (s : RS) : rget n s = (numOf (rtake n s).1, (rtake n s).2) := by
  unfold rget rtake
  split <;> rfl
theorem rtake_len (n : Nat) (s : RS) : (rtake n s).1.length ≤ n := by
  unfold rtake
  split
  · simp
  · simp; omega
theorem take_any (r n base : Nat) (s : RS) (w : World) (hr : Rdr w base r s) :
    Calls Try.prog 81 #[.pointer (some ⟨r, 0, none⟩), .int .i64 n] w (TakePost w base r (rtake n s).1 (rtake n s).2) := by
  unfold rtake
  split
  · rename_i h
    exact take_bad r n base s w hr h
  · rename_i h
    rw [not_or] at h
    obtain ⟨bs, b⟩ := s
    obtain rfl : b = false := by simpa using h.1
    exact take_ok r n base bs w hr (by simpa using h.2)

theorem numOf_snoc (l : List UInt8) (c : UInt8) : numOf (l ++ [c]) = numOf l * 256 + c.toNat := by simp [numOf]
theorem numOf_lt (l : List UInt8) : numOf l < 256 ^ l.length := by
  rw [← List.reverse_reverse l]
  induction l.reverse with
  | nil => simp [numOf]
  | cons c l ih =>
    rw [List.reverse_cons, numOf_snoc, List.length_append]
    have := c.toNat_lt
    simp only [List.length_singleton, Nat.pow_succ]
    omega
theorem numOf_small (l : List UInt8) (k : Nat) (h : l.length ≤ k) : numOf l < 256 ^ k := Nat.lt_of_lt_of_le (numOf_lt l) (Nat.pow_le_pow_right (by decide) h)
theorem wraps_i64 (n : Int) (h₀ : 0 ≤ n) (h₁ : n < 2 ^ 62) : IntKind.i64.wrap n = n := by rw [IntKind.wrap_i64]; omega
theorem or_byte (n c : Nat) (hn : n < 256 ^ 5) (hc : c < 256) : bits .or .i64 ((n : Int) * 256) c = ((n * 256 + c : Nat) : Int) := by
  rw [bits_join .i64 62 (by decide) wraps_i64 8 _ _ (by omega) (by omega) (by omega) (by omega) (by omega) (by omega)]
  simp

def GetPost (w : World) (base r : Nat) (n : Int) (s : RS) (e : Ending) (w' : World) : Prop := e = .returned (.int .i64 n) ∧ Rdr w' base r s ∧ w.grownBy w' (some r)

set_option maxHeartbeats 400000 in
theorem get_any (r size base : Nat) (s : RS) (w : World) (hr : Rdr w base r s) (hsz : size ≤ 6) :
    Calls Try.prog 80 #[.pointer (some ⟨r, 0, none⟩), .int .i64 size] w (GetPost w base r (rget size s).1 (rget size s).2) := by
  have hl := rtake_len size s
  have ht := take_any r size base s w hr
  rw [rget_take]
  generalize (rtake size s).1 = out at *
  generalize (rtake size s).2 = s' at *
  have HT := Lib.hid ht
  clear ht hr
  go_enter Try.func80, Try.ntmps80
  go_wp2_with fail
  refine HT.out.mono ?_
  rintro e w1 ⟨A, c, rfl, hs, hr1, hg, _⟩
  have HS := Lib.hid hs
  have HR := Lib.hid hr1
  have HG := Lib.hid hg
  clear hs hr1 hg
  go_wp2_with fail
  go_loop [5, 7, 12] (fun n c i => ∃ k : Nat, k ≤ out.length ∧ i = .int .i64 k ∧ n = .int .i64 (numOf (out.take k))) (fun _ _ i => out.length - (intOf i).toNat)
  case atStart => exact ⟨0, Nat.zero_le _, rfl, rfl⟩
  case round =>
    obtain ⟨k, hk, rfl, rfl⟩ := hrel
    by_cases hlt : k < out.length
    · obtain ⟨b, o, rfl, hc⟩ := HS.out.rd.at_ (by omega)
      have hcell := hc k _ (bvs_get out k hlt)
      have hsn : Hid (numOf (out.take (k + 1)) = numOf (out.take k) * 256 + out[k].toNat) := by
        rw [take_snoc out k _ (List.getElem?_eq_getElem hlt), numOf_snoc]; rfl
      have hb := numOf_small (out.take k) 5 (by have : (out.take k).length ≤ k := List.length_take_le _ _; omega)
      have hc1 := out[k].toNat_lt
      generalize out[k] = x at *
      unfold bv at hcell
      clear hc
      have ho := or_byte _ _ hb hc1
      have HO := Lib.hid ho
      clear ho
      go_wp2_with fail
      go_round
      case rel => exact ⟨k + 1, by omega, by go_num, by rw [HO.out, hsn.out]⟩
      case measure => simp [intOf]; omega
    · have hke : Hid (k = out.length) := Lib.hid (show k = out.length by omega)
      go_wp2_with fail
      go_ret
      refine ⟨?_, HR.out, HG.out⟩
      rw [hke.out, List.take_length]; rfl

def StPost (w : World) (base r : Nat) (v : Value) (s : RS) (e : Ending) (w' : World) : Prop := e = .returned v ∧ Rdr w' base r s ∧ w.grownBy w' (some r)

theorem rget_lt (n : Nat) (h : n ≤ 6) (s : RS) : (rget n s).1 < 281474976710656 := by
  rw [rget_take]
  exact numOf_small _ 6 (Nat.le_trans (rtake_len n s) h)

/-- The reader's mark is set. -/
theorem mark_set {w w1 : World} {base r c : Nat} {A : Option Addr} {bs : List UInt8} {bad : Bool} (hc : w1.heap[r]? = some (.cells #[.slice A bs.length c, .bool bad] 131 (0, 0)))
    (hs : Seg w1 base 1 A bs.length c (bvs bs)) (ha : ∀ a, A = some a → a.block ≠ r) (hg : w.grownBy w1 (some r)) (b : Bool) :
    Rdr (w1.setCell ⟨r, 1, none⟩ (.bool b)) base r (bs, b) ∧ w.grownBy (w1.setCell ⟨r, 1, none⟩ (.bool b)) (some r) := by
  have hg1 := grown_set w1 r 1 (.bool b)
  exact ⟨⟨A, c, by rw [heap_set hc]; rfl, hs.kept hg1 (fun a h => by simpa using ha a h), ha⟩, grown_trans hg hg1⟩

set_option maxHeartbeats 400000 in
theorem Number_any (r base : Nat) (least most : Int) (s : RS) (w : World) (hr : Rdr w base r s) :
    Calls Try.prog 56 #[.pointer (some ⟨r, 0, none⟩), .int .i64 least, .int .i64 most] w (StPost w base r (.int .i64 (rnum least most s).1) (rnum least most s).2) := by
  have hg := get_any r 6 base s w hr (by omega)
  have hlt := rget_lt 6 (by omega) s
  unfold rnum
  generalize rget 6 s = g at *
  obtain ⟨n, bs, bad⟩ := g
  have HG := Lib.hid hg
  clear hg hr
  simp only at hlt ⊢
  by_cases hcnd : bad = true ∨ (n : Int) < least ∨ most < (n : Int)
  · rw [if_pos hcnd]
    obtain ⟨b, hb⟩ : ∃ b, b = bad := ⟨bad, rfl⟩
    cases b with
    | true =>
      subst hb
      clear hcnd
      go_enter Try.func56, Try.ntmps56
      go_wp2_with fail
      refine HG.out.mono ?_
      rintro e w1 ⟨rfl, ⟨A, c, hc, hs, ha⟩, hg1⟩
      obtain ⟨hc0, hc1, hf0, hf1⟩ := cell_two hc
      have FIN := Lib.hid (mark_set hc hs ha hg1 true)
      clear hc hs ha hg1
      go_wp2_with fail
      go_ret
      exact ⟨rfl, FIN.out⟩
    | false =>
      subst hb
      have hcnd' : (n : Int) < least ∨ most < (n : Int) := hcnd.resolve_left (by simp)
      clear hcnd
      by_cases h1 : (n : Int) < least
      · clear hcnd'
        go_enter Try.func56, Try.ntmps56
        go_wp2_with fail
        refine HG.out.mono ?_
        rintro e w1 ⟨rfl, ⟨A, c, hc, hs, ha⟩, hg1⟩
        obtain ⟨hc0, hc1, hf0, hf1⟩ := cell_two hc
        have FIN := Lib.hid (mark_set hc hs ha hg1 true)
        clear hc hs ha hg1
        go_wp2_with fail
        go_ret
        exact ⟨rfl, FIN.out⟩
      · have h2 : most < (n : Int) := hcnd'.resolve_left h1
        clear hcnd'
        go_enter Try.func56, Try.ntmps56
        go_wp2_with fail
        refine HG.out.mono ?_
        rintro e w1 ⟨rfl, ⟨A, c, hc, hs, ha⟩, hg1⟩
        obtain ⟨hc0, hc1, hf0, hf1⟩ := cell_two hc
        have FIN := Lib.hid (mark_set hc hs ha hg1 true)
        clear hc hs ha hg1
        go_wp2_with fail
        go_ret
        exact ⟨rfl, FIN.out⟩
  · rw [if_neg hcnd]
    rw [not_or, not_or] at hcnd
    obtain ⟨h0, h1, h2⟩ := hcnd
    obtain rfl : bad = false := by simpa using h0
    clear h0
    have d1 : decide ((n : Int) < least) = false := by simpa using h1
    have d2 : decide (most < (n : Int)) = false := by simpa using h2
    go_enter Try.func56, Try.ntmps56
    go_wp2_with fail
    refine HG.out.mono ?_
    rintro e w1 ⟨rfl, ⟨A, c, hc, hs, ha⟩, hg1⟩
    obtain ⟨hc0, hc1, hf0, hf1⟩ := cell_two hc
    have FIN := Lib.hid (mark_set hc hs ha hg1 false)
    clear hc hs ha hg1
    go_wp2_with fail
    go_ret
    exact ⟨rfl, FIN.out⟩
set_option maxHeartbeats 400000 in
theorem Text_any (r base : Nat) (least most : Int) (s : RS) (w : World) (hr : Rdr w base r s) :
    Calls Try.prog 58 #[.pointer (some ⟨r, 0, none⟩), .int .i64 least, .int .i64 most] w (TakePost w base r (rtext least most s).1 (rtext least most s).2) := by
  have hg := get_any r 2 base s w hr (by omega)
  have hlt := rget_lt 2 (by omega) s
  unfold rtext
  generalize rget 2 s = g at *
  obtain ⟨n, bs, bad⟩ := g
  have HG := Lib.hid hg
  clear hg hr
  simp only at hlt ⊢
  by_cases hcnd : bad = true ∨ (n : Int) < least ∨ most < (n : Int)
  · rw [if_pos hcnd]
    obtain ⟨b, hb⟩ : ∃ b, b = bad := ⟨bad, rfl⟩
    cases b with
    | true =>
      subst hb
      clear hcnd
      go_enter Try.func58, Try.ntmps58
      go_wp2_with fail
      refine HG.out.mono ?_
      rintro e w1 ⟨rfl, ⟨A, c, hc, hs, ha⟩, hg1⟩
      obtain ⟨hc0, hc1, hf0, hf1⟩ := cell_two hc
      have FIN := Lib.hid (mark_set hc hs ha hg1 true)
      clear hc hs ha hg1
      go_wp2_with fail
      go_ret
      exact ⟨none, 0, rfl, Seg.nil _ _ _, FIN.out.1, FIN.out.2, fun g o h => by cases h⟩
    | false =>
      subst hb
      have hcnd' : (n : Int) < least ∨ most < (n : Int) := hcnd.resolve_left (by simp)
      clear hcnd
      by_cases h1 : (n : Int) < least
      · clear hcnd'
        go_enter Try.func58, Try.ntmps58
        go_wp2_with fail
        refine HG.out.mono ?_
        rintro e w1 ⟨rfl, ⟨A, c, hc, hs, ha⟩, hg1⟩
        obtain ⟨hc0, hc1, hf0, hf1⟩ := cell_two hc
        have FIN := Lib.hid (mark_set hc hs ha hg1 true)
        clear hc hs ha hg1
        go_wp2_with fail
        go_ret
        exact ⟨none, 0, rfl, Seg.nil _ _ _, FIN.out.1, FIN.out.2, fun g o h => by cases h⟩
      · have h2 : most < (n : Int) := hcnd'.resolve_left h1
        clear hcnd'
        go_enter Try.func58, Try.ntmps58
        go_wp2_with fail
        refine HG.out.mono ?_
        rintro e w1 ⟨rfl, ⟨A, c, hc, hs, ha⟩, hg1⟩
        obtain ⟨hc0, hc1, hf0, hf1⟩ := cell_two hc
        have FIN := Lib.hid (mark_set hc hs ha hg1 true)
        clear hc hs ha hg1
        go_wp2_with fail
        go_ret
        exact ⟨none, 0, rfl, Seg.nil _ _ _, FIN.out.1, FIN.out.2, fun g o h => by cases h⟩
  · rw [if_neg hcnd]
    rw [not_or, not_or] at hcnd
    obtain ⟨h0, h1, h2⟩ := hcnd
    obtain rfl : bad = false := by simpa using h0
    clear h0
    have hk : (if bs.length < n then (([] : List UInt8), (bs, true)) else (bs.take n, (bs.drop n, false))) = rtake n (bs, false) := by unfold rtake; simp
    rw [hk]
    have HT0 := fun w => take_any r n base (bs, false) w
    generalize rtake n (bs, false) = tk at *
    obtain ⟨out, s'⟩ := tk
    have HT1 := Lib.hid HT0
    clear HT0 hk
    have d1 : decide ((n : Int) < least) = false := by simpa using h1
    have d2 : decide (most < (n : Int)) = false := by simpa using h2
    go_enter Try.func58, Try.ntmps58
    go_wp2_with fail
    refine HG.out.mono ?_
    rintro e w1 ⟨rfl, ⟨A, c, hc, hs, ha⟩, hg1⟩
    obtain ⟨hc0, hc1, hf0, hf1⟩ := cell_two hc
    have FIN := Lib.hid (mark_set hc hs ha hg1 false)
    clear hc hs ha hg1
    have HT := Lib.hid (HT1.out _ FIN.out.1)
    go_wp2_with fail
    refine HT.out.mono ?_
    rintro e w2 ⟨A2, c2, rfl, hs2, hr2, hg2, ha2⟩
    have HF : Hid (TakePost w base r out s' (.returned (.slice A2 out.length c2)) w2) := Lib.hid ⟨A2, c2, rfl, hs2, hr2, grown_trans FIN.out.2 hg2, ha2⟩
    clear hs2 hr2 hg2 ha2 FIN HT
    go_wp2_with fail
    go_ret
    exact HF.out

def BoolPost (w : World) (b : Bool) (e : Ending) (w' : World) : Prop := e = .returned (.bool b) ∧ w = w'

set_option maxHeartbeats 400000 in
theorem Bad_any (r base : Nat) (s : RS) (w : World) (hr : Rdr w base r s) :
    Calls Try.prog 57 #[.pointer (some ⟨r, 0, none⟩)] w (BoolPost w s.2) := by
  obtain ⟨A, c, hc, hs, ha⟩ := hr
  obtain ⟨hc0, hc1, hf0, hf1⟩ := cell_two hc
  clear hc ha hs
  go_enter Try.func57, Try.ntmps57
  go_wp2_with fail
  go_ret
  exact ⟨rfl, rfl⟩

set_option maxHeartbeats 400000 in
theorem End_any (r base : Nat) (s : RS) (w : World) (hr : Rdr w base r s) :
    Calls Try.prog 59 #[.pointer (some ⟨r, 0, none⟩)] w (BoolPost w (!s.2 && s.1.isEmpty)) := by
  obtain ⟨A, c, hc, hs, ha⟩ := hr
  obtain ⟨hc0, hc1, hf0, hf1⟩ := cell_two hc
  have hmax := hs.max
  have hcap := hs.cap
  unfold maxLen at hmax
  clear hc ha hs
  obtain ⟨bs, bad⟩ := s
  cases bad with
  | true =>
    go_enter Try.func59, Try.ntmps59
    go_wp2_with fail
    go_ret
    exact ⟨rfl, rfl⟩
  | false =>
    go_enter Try.func59, Try.ntmps59
    go_wp2_with fail
    go_ret
    refine ⟨?_, rfl⟩
    cases bs with
    | nil => simp
    | cons x r => simp; omega

/-- A fresh reader: the bytes are copied. -/
def ReadPost (w : World) (bs : List UInt8) (e : Ending) (w' : World) : Prop :=
  ∃ r, e = .returned (.pointer (some ⟨r, 0, none⟩)) ∧ w.heap.size ≤ r ∧ Rdr w' w.heap.size r (bs, false) ∧ Below w.heap.size w w'

set_option maxHeartbeats 400000 in
theorem Read_any (A : Option Addr) (c : Nat) (bs : List UInt8) (w : World) (hr : Rd w 1 A bs.length c (bvs bs)) (hm : bs.length ≤ 140737488355328) :
    Calls Try.prog 55 #[.slice A bs.length c] w (ReadPost w bs) := by
  have hsrc := Lib.hid (hr.src (P := Try.prog) Try.underlying27 (bvs_one _))
  clear hr
  go_enter Try.func55, Try.ntmps55
  go_wp2_with (at_builtin; refine wpList_append_seg rfl _ _ _ _ rfl ei_u8 rfl (Seg.nil w w.heap.size 1) rfl hsrc.out (by simp [maxLen]; omega) (by omega) (Nat.le_refl _) ?_; intro A' c' w' hs hg _)
  go_ret
  have hz : (0 + bs.length) = bs.length := Nat.zero_add _
  rw [hz, List.nil_append] at hs
  have hb := below_of_grown hg
  exact ⟨w'.heap.size, rfl, hb.size, ⟨A', c', heap_alloc_new w' _, hs.below ((Below.refl _ _).alloc (Nat.le_refl _) _), fun a h => by have := hs.lt a h; omega⟩, hb.alloc hb.size _⟩
end Go.Proofs.Ytnjkklkjlloedaa
