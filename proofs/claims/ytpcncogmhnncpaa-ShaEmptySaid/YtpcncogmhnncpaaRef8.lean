/- Contracts of locketref08.Text and Num. -/
import Derived.Test.YtpcncogmhnncpaaLaw8c
namespace Go.Proofs.Ytpcncogmhnncpaa
open Go.RowKit

/-- Fresh bytes. -/
def Fresh (w : World) (bs : List UInt8) (e : Ending) (w' : World) : Prop := ∃ A c, e = .returned (.slice A bs.length c) ∧ Seg w' w.heap.size 1 A bs.length c (bvs bs) ∧ Below w.heap.size w w'

set_option maxHeartbeats 400000 in
theorem refText_any (A : Option Addr) (c : Nat) (bs : List UInt8) (w : World) (h : bs.length ≤ 65535) (hr : Rd w 1 A bs.length c (bvs bs)) :
    Calls Try.prog 23 #[.slice A bs.length c] w (Fresh w (textB bs)) := by
  go_enter Try.func23, Try.ntmps23
  go_wp2_with (at_builtin; refine wpList_append_seg rfl _ _ _ _ rfl ei_u8 rfl (seg_lit w _ [UInt8.ofNat (bs.length / 256), UInt8.ofNat bs.length] _ w.heap.size (by simp [bvs, bv_ofNat]; omega) (Nat.le_refl _) (by simp [maxLen])) rfl ((hr.below ((Below.refl _ _).alloc (Nat.le_refl _) _)).src Try.underlying23 (bvs_one _)) (by simp [maxLen]; omega) (by simp; omega) (by simp) ?_; intro A' c' w' hs hg _)
  go_ret
  refine ⟨A', c', ?_, ?_, ?_⟩
  · rw [show (textB bs).length = [UInt8.ofNat (bs.length / 256), UInt8.ofNat bs.length].length + bs.length from List.length_append ..]; rfl
  · rw [show (textB bs).length = [UInt8.ofNat (bs.length / 256), UInt8.ofNat bs.length].length + bs.length from List.length_append .., textB, bvs_append]; exact hs
  · exact ((Below.refl _ _).alloc (Nat.le_refl _) _).grown hg (by simp) (by simp)

set_option maxHeartbeats 1000000 in
theorem refNum_any (n : Nat) (w : World) (h : n ≤ 1099511627776) :
    Calls Try.prog 24 #[.int .i64 n] w (Fresh w (numB n)) := by
  have hmk : ∀ w, (Instr.makeSlice 23 (.int .i64 6) (.int .i64 6)).run Try.prog w = .ok (.slice (some ⟨w.heap.size, 0, none⟩) 6 6) (w.alloc (.cells #[.int .u8 0, .int .u8 0, .int .u8 0, .int .u8 0, .int .u8 0, .int .u8 0] 5)) := fun _ => by kernel_rfl
  go_enter Try.func24, Try.ntmps24
  go_wp2_with fail
  refine wp_loop_rounds 7 ?_
  iterate 7 (rw [rounds_succ]; go_wp2_with fail)
  go_ret
  refine ⟨some ⟨w.heap.size, 0, none⟩, 6, rfl, seg_lit w _ (numB n) 5 _ ?_ (Nat.le_refl _) (by simp [numB, maxLen]), (Below.refl _ _).alloc (Nat.le_refl _) _⟩
  simp [bvs, numB, bv_ofNat]
  omega
end Go.Proofs.Ytpcncogmhnncpaa
