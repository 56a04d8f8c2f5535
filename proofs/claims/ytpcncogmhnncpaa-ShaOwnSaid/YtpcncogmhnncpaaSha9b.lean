/- ShaBytes for every input. -/
import Derived.Test.YtpcncogmhnncpaaSha9
namespace Go.Proofs.Ytpcncogmhnncpaa
open Go.RowKit
set_option linter.unusedSimpArgs false
theorem wf_i64 {x : Int} (h : (Lit.int .i64 x).wf = true) : -9223372036854775808 ≤ x ∧ x < 9223372036854775808 := by
  have h1 : IntKind.i64.min = -9223372036854775808 := by decide
  have h2 : IntKind.i64.max = 9223372036854775807 := by decide
  simp [Lit.wf, h1, h2] at h
  omega
theorem ShaBytes_walk (w : World) (A : Option Addr) (n c : Nat) (bs : List UInt8) (h : RBytes w [.slice A n c] bs) (x : Int) (hx : (Lit.int .i64 x).wf = true) :
    Calls Try.prog 12 #[.slice A n c, .int .i64 x] w (Tells w true) := by
  obtain ⟨A', c', he, hr⟩ := h
  simp only [List.cons.injEq, Value.slice.injEq, and_true] at he
  obtain ⟨rfl, rfl, rfl⟩ := he
  have hb := wf_i64 hx
  have hmax := hr.max
  have hcap := hr.cap
  unfold maxLen at hmax
  by_cases hl : bs.length ≤ 200
  · by_cases h0 : 0 ≤ x
    · exact ShaBytes_ok w A _ c bs x hr h0 hb.2 hl
    · have hl' : (bs.length : Int) ≤ 200 := by omega
      have h0' : x < 0 := by omega
      clear hr
      go_enter Try.func12, Try.ntmps12
      go_wp2_with fail
      refine (anchor1 w).mono ?_
      rintro e w1 ⟨rfl, hb1⟩
      go_wp2_with fail
      go_ret
      exact ⟨rfl, hb1⟩
  · have hl' : (200 : Int) < (bs.length : Int) := by omega
    clear hr
    go_enter Try.func12, Try.ntmps12
    go_wp2_with fail
    refine (anchor1 w).mono ?_
    rintro e w1 ⟨rfl, hb1⟩
    go_wp2_with fail
    go_ret
    exact ⟨rfl, hb1⟩
end Go.Proofs.Ytpcncogmhnncpaa
