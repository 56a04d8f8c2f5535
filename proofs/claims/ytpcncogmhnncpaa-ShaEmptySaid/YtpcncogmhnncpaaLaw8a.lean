/- locketlaw08.anchor is true; locketref08.Text and Num. -/
import Derived.Test.YtpcncogmhnncpaaCode5
import Derived.Lib.SlBytesConst
namespace Go.Proofs.Ytpcncogmhnncpaa
open Go.RowKit

/-- true, and nothing that was there has turned. -/
def Tells (w : World) (b : Bool) (e : Ending) (w' : World) : Prop := e = .returned (.bool b) ∧ Below w.heap.size w w'

/-- A row of values that was just made. -/
theorem rd_lit (w : World) (cs : Array Value) (e : TypeId) (size n : Nat) (hs : cs.size = n * size) (hm : n ≤ maxLen) :
    Rd (w.alloc (.cells cs e)) size (some ⟨w.heap.size, 0, none⟩) n n cs.toList := by
  have hnew := heap_alloc_new w (.cells cs e)
  refine ⟨by simp [hs], Nat.le_refl _, hm, (fun h => by cases h), .inr ⟨w.heap.size, 0, rfl, fun j u hu => ?_⟩⟩
  simp only [World.cell?, hnew, Nat.zero_add]
  simpa using hu

theorem PutPost.ok {ps : List Pt} {w : World} {e : Ending} {w' : World} (h : PutPost ps w e w') (h0 : putErr ps = 0) : OkBytes w (putB ps) e w' := by
  rcases h with h | h
  · exact h.2
  · exact absurd h0 h.1

theorem anchor_ps : putErr [.inl 1, .inr [97, 98]] = 0 ∧ putB [.inl 1, .inr [97, 98]] = [0, 0, 0, 0, 0, 1, 0, 2, 97, 98] := by decide
theorem anchor_1 : rnum 0 9 ([0, 0, 0, 0, 0, 1, 0, 2, 97, 98], false) = (1, ([0, 2, 97, 98], false)) := by decide
theorem anchor_2 : rtext 0 9 ([0, 2, 97, 98], false) = ([97, 98], ([], false)) := by decide

set_option maxHeartbeats 400000 in
theorem anchor8 (w : World) : Calls Try.prog 14 #[] w (Tells w true) := by
  have hput := Put_any [.inl 1, .inr [97, 98]] (some ⟨w.heap.size, 0, none⟩) 2 [.iface 3 (.int .i64 1), .iface 9 (.string ⟨#[97, 98]⟩)] _ (rd_lit w #[.iface 3 (.int .i64 1), .iface 9 (.string ⟨#[97, 98]⟩)] 20 1 2 rfl (by simp [maxLen]))
    (fun k p v hp hv => by
      match k, hp, hv with
      | 0, hp, hv => simp at hp hv; subst hp; subst hv; rfl
      | 1, hp, hv => simp at hp hv; subst hp; subst hv; exact .inr ⟨rfl, by simp [maxLen]⟩
      | k + 2, hp, hv => simp at hp) (by simp)
  have HP := Lib.hid hput
  clear hput
  go_enter Try.func14, Try.ntmps14
  go_wp2_with fail
  refine HP.out.mono ?_
  intro e w1 hpost
  have hok := hpost.ok anchor_ps.1
  rw [anchor_ps.2] at hok
  obtain ⟨A, c, rfl, hs, hb⟩ := hok
  clear hpost HP
  have HS := Lib.hid hs
  clear hs
  go_wp2_with fail
  refine (Read_any A c _ w1 HS.out.rd (by simp)).mono ?_
  rintro e w2 ⟨r, rfl, hr0, hr, hb2⟩
  have kc : (convert 23 9 (.slice A 10 c)).run Try.prog w2 = .ok (.string ⟨#[0, 0, 0, 0, 0, 1, 0, 2, 97, 98]⟩) w2 := run_string_rd Try.underlying23 Try.underlying5 Try.underlying9 (HS.out.below hb2).rd
  have hn := Lib.hid (Number_any r _ 0 9 _ w2 hr)
  rw [anchor_1] at hn
  clear hr
  go_wp2_with fail
  refine hn.out.mono ?_
  rintro e w3 ⟨rfl, hr3, hg3⟩
  have ht := Lib.hid (Text_any r _ 0 9 _ w3 hr3)
  rw [anchor_2] at ht
  clear hr3 hn kc
  go_wp2_with fail
  refine ht.out.mono ?_
  rintro e w4 ⟨A4, c4, rfl, hs4, hr4, hg4, _⟩
  have kc : (convert 23 9 (.slice A4 2 c4)).run Try.prog w4 = .ok (.string ⟨#[97, 98]⟩) w4 := run_string_rd Try.underlying23 Try.underlying5 Try.underlying9 hs4.rd
  have he := Lib.hid (End_any r _ _ w4 hr4)
  clear hr4 hs4 ht
  go_wp2_with fail
  refine he.out.mono ?_
  rintro e w5 ⟨rfl, rfl⟩
  go_wp2_with fail
  go_ret
  refine ⟨rfl, ?_⟩
  have h0 : Below w.heap.size w w1 := ((Below.refl _ _).alloc (Nat.le_refl _) _).trans (hb.mono (by simp))
  have h2 : Below w.heap.size w w2 := h0.trans (hb2.mono h0.size)
  exact (h2.grown hg3 h2.size (fun k hk => by cases hk; have := h0.size; omega)).grown hg4 (by have := h2.size; have := hg3.size; omega) (fun k hk => by cases hk; have := h0.size; omega)
end Go.Proofs.Ytpcncogmhnncpaa
