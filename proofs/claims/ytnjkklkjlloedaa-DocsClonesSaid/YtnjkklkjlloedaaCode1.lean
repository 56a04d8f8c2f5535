/- Contracts of code.number, code.text, code.part. -/
import Derived.Test.YtnjkklkjlloedaaW
namespace Go.Proofs.Ytnjkklkjlloedaa
open Go.RowKit

theorem ei_u8 : EI Try.prog 27 5 (.int .u8 0) 1 1 := EI.mk' Try.underlying27 (by kernel_rfl) rfl

def numB (n : Nat) : List UInt8 := [UInt8.ofNat (n / 1099511627776), UInt8.ofNat (n / 4294967296), UInt8.ofNat (n / 16777216), UInt8.ofNat (n / 65536), UInt8.ofNat (n / 256), UInt8.ofNat n]
def textB (bs : List UInt8) : List UInt8 := [UInt8.ofNat (bs.length / 256), UInt8.ofNat bs.length] ++ bs
theorem bv_ofNat (n : Nat) : bv (UInt8.ofNat n) = .int .u8 ((n % 256 : Nat) : Int) := by simp [bv]

/-- The bytes bs, fresh, and no error. -/
def OkBytes (w : World) (bs : List UInt8) (e : Ending) (w' : World) : Prop :=
  ∃ A c, e = .returned (.tuple #[.slice A bs.length c, .int .i64 0]) ∧ Seg w' w.heap.size 1 A bs.length c (bvs bs) ∧ Below w.heap.size w w'
/-- nil, and an error's number. -/
def ErrBytes (w : World) (n : Int) (e : Ending) (w' : World) : Prop := e = .returned (.tuple #[.slice none 0 0, .int .i64 n]) ∧ w = w'

/-- A row of bytes that was just made. -/
theorem seg_lit (w : World) (cs : Array Value) (bs : List UInt8) (e : TypeId) (base : Nat) (h : cs.toList = bvs bs) (hb : base ≤ w.heap.size) (hm : bs.length ≤ maxLen) :
    Seg (w.alloc (.cells cs e)) base 1 (some ⟨w.heap.size, 0, none⟩) bs.length bs.length (bvs bs) := by
  have hs : cs.size = bs.length := by rw [← Array.length_toList, h, bvs_length]
  have hnew := heap_alloc_new w (.cells cs e)
  refine ⟨by simp [bvs_length], Nat.le_refl _, hm, .inr ⟨w.heap.size, 0, rfl, ⟨hb, by simp⟩, fun j hj => ⟨?_, ?_⟩, fun j u hu => ?_⟩⟩
  · simp only [World.cell?, hnew, Nat.zero_add]; simp; omega
  · simp only [World.frozen?, hnew]; simp
  · simp only [World.cell?, hnew, Nat.zero_add]; simp; rw [← h] at hu; simpa using hu

set_option maxHeartbeats 400000 in
theorem number_bad (n : Int) (w : World) (h : n < 0 ∨ 1099511627776 < n) :
    Calls Try.prog 94 #[.int .i64 n] w (ErrBytes w 12) := by
  rcases h with h | h
  · go_enter Try.func94, Try.ntmps94
    go_wp2
    go_ret2
    exact ⟨rfl, rfl⟩
  · have h' : ¬ n < 0 := by omega
    go_enter Try.func94, Try.ntmps94
    go_wp2
    go_ret2
    exact ⟨rfl, rfl⟩

set_option maxHeartbeats 400000 in
theorem number_ok (n : Nat) (w : World) (h1 : n ≤ 1099511627776) :
    Calls Try.prog 94 #[.int .i64 n] w (OkBytes w (numB n)) := by
  go_enter Try.func94, Try.ntmps94
  go_wp2
  go_ret2
  refine ⟨some ⟨w.heap.size, 0, none⟩, 6, rfl, seg_lit w _ (numB n) 5 _ ?_ (Nat.le_refl _) (by simp [numB, maxLen]), (Below.refl _ _).alloc (Nat.le_refl _) _⟩
  simp [bvs, numB, bv_ofNat]
  omega

set_option maxHeartbeats 400000 in
theorem text_bad (A : Option Addr) (n c : Nat) (w : World) (h : 4096 < n) (hm : n ≤ maxLen) :
    Calls Try.prog 95 #[.slice A n c] w (ErrBytes w 11) := by
  unfold maxLen at hm
  go_enter Try.func95, Try.ntmps95
  go_wp2
  go_ret2
  exact ⟨rfl, rfl⟩

set_option maxHeartbeats 400000 in
theorem text_ok (A : Option Addr) (c : Nat) (bs : List UInt8) (w : World) (h : bs.length ≤ 4096) (hr : Rd w 1 A bs.length c (bvs bs)) :
    Calls Try.prog 95 #[.slice A bs.length c] w (OkBytes w (textB bs)) := by
  go_enter Try.func95, Try.ntmps95
  go_wp2_with (at_builtin; refine wpList_append_seg rfl _ _ _ _ rfl ei_u8 rfl (seg_lit w _ [UInt8.ofNat (bs.length / 256), UInt8.ofNat bs.length] _ w.heap.size (by simp [bvs, bv_ofNat]; omega) (Nat.le_refl _) (by simp [maxLen])) rfl ((hr.below ((Below.refl _ _).alloc (Nat.le_refl _) _)).src Try.underlying27 (bvs_one _)) (by simp [maxLen]; omega) (by simp; omega) (by simp) ?_; intro A' c' w' hs hg _)
  go_ret2
  refine ⟨A', c', ?_, ?_, ?_⟩
  · rw [show (textB bs).length = [UInt8.ofNat (bs.length / 256), UInt8.ofNat bs.length].length + bs.length from List.length_append ..]; rfl
  · rw [show (textB bs).length = [UInt8.ofNat (bs.length / 256), UInt8.ofNat bs.length].length + bs.length from List.length_append .., textB, bvs_append]; exact hs
  · exact ((Below.refl _ _).alloc (Nat.le_refl _) _).grown hg (by simp) (by simp)
end Go.Proofs.Ytnjkklkjlloedaa
