/- What is used in every law: a law's answer, rows that were just made. -/
import Derived.Test.YtnjkklkjlloedaaCode1
namespace Go.Proofs.Ytnjkklkjlloedaa
open Go.RowKit
set_option linter.unusedVariables false

/-- true, and nothing that was there has turned. -/
def Tells (w : World) (b : Bool) (e : Ending) (w' : World) : Prop := e = .returned (.bool b) ∧ Below w.heap.size w w'

/-- A row of values that was just made. -/
theorem rd_lit (w : World) (cs : Array Value) (e : TypeId) (size n : Nat) (hs : cs.size = n * size) (hm : n ≤ maxLen) :
    Rd (w.alloc (.cells cs e)) size (some ⟨w.heap.size, 0, none⟩) n n cs.toList := by
  have hnew := heap_alloc_new w (.cells cs e)
  refine ⟨by simp [hs], Nat.le_refl _, hm, (fun h => by cases h), .inr ⟨w.heap.size, 0, rfl, fun j u hu => ?_⟩⟩
  simp only [World.cell?, hnew, Nat.zero_add]
  simpa using hu

/-- []byte{}: a row of nothing. -/
theorem seg_empty (w : World) (e : TypeId) : Seg (w.alloc (.cells #[] e)) w.heap.size 1 (some ⟨w.heap.size, 0, none⟩) 0 0 (bvs []) := seg_lit w #[] [] e w.heap.size rfl (Nat.le_refl _) (by simp)
end Go.Proofs.Ytnjkklkjlloedaa
