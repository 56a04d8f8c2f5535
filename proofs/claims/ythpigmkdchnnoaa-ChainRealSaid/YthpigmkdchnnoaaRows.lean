/-
  No cell of these rows narrows 'for every input' (looked for: loops, veiled, ifaces, maps, wideKeys, modest, calm, conditions, laid).
  DERIVED. THE GIVEN ROWS OF THIS SEAT. 6 by the template 'for every input the law returns true; each argument reads behind the call as it read before'; 0 by the template 'total and deterministic' (their statements: YthpigmkdchnnoaaTotals.lean).
  GIVEN WITH THE SEED: the statements are not yours to turn. If you find one false, say at which input.
  Laid BY PROGRAM, IN A SANDBOX (cutbox-rows.mjs): the forced cells as the released guide's own fill.sh prints them over the translation e557dd94ddbe402b… (all of the seat's roots in one cut). By AI agents, Wed Nov 11 2026. No macro, syntax, notation, axiom, sorry.
-/
import Derived.Test.YthpigmkdchnnoaaChecked
import GoSem.Claim
import GoSem.ClaimJoined
import GoSem.ClaimMapViews
import Derived.JoinedTies
import Derived.KernelRfl
namespace Go.Proofs.Ythpigmkdchnnoaa
/- THE CELL 'sum', in the pinned program and in every row, IS THE sha256 OF THE DUMP (.gsa) THAT YthpigmkdchnnoaaProg.lean LOADS. Nothing in Lean hashes anything: it is a label: what it is worth is what the hold of that sum in a sandbox is worth. -/
noncomputable def Try.pinned : Pinned := { name := "ythpigmkdchnnoaa", sum := "e557dd94ddbe402b302612d62cb5e408114d09673d5b7de24be47a29e34d815d", checked := Try.checked }
namespace Rows
def none {H : Type} : Left H := { results := [], args := [] }

/-- 'locketlaw12.ChainGrows': WHATEVER THE INPUT: true; the input reads as it did. -/
def chainGrowsSpec : ChangeSpec := { name := "chainGrows", fn := fun _ => fun
  | [d] => { results := [.lit (.bool true)], args := [d] }
  | _ => none }
def chainGrowsRow : OpenClaim := { program := "ythpigmkdchnnoaa", sum := "e557dd94ddbe402b302612d62cb5e408114d09673d5b7de24be47a29e34d815d", func := "locket/locketlaw12.ChainGrows", spec := "chainGrows", plainKeys := false, apart := false }
def ChainGrowsSaid : Prop := chainGrowsRow.holds Try.pinned (OpenSpec.ofChange chainGrowsSpec)

/-- ITS FALSE NEIGHBOUR: 'it returns false'. Refute it at one input. -/
def chainGrowsWrong : ChangeSpec := { name := "chainGrows", fn := fun _ => fun
  | [d] => { results := [.lit (.bool false)], args := [d] }
  | _ => none }
def ChainGrowsWrongFalsely : Prop := chainGrowsRow.holds Try.pinned (OpenSpec.ofChange chainGrowsWrong)

/-- 'locketlaw12.ChainFull': WHATEVER THE INPUT: true; the input reads as it did. -/
def chainFullSpec : ChangeSpec := { name := "chainFull", fn := fun _ => fun
  | [d1, d2] => { results := [.lit (.bool true)], args := [d1, d2] }
  | _ => none }
def chainFullRow : OpenClaim := { program := "ythpigmkdchnnoaa", sum := "e557dd94ddbe402b302612d62cb5e408114d09673d5b7de24be47a29e34d815d", func := "locket/locketlaw12.ChainFull", spec := "chainFull", plainKeys := false, apart := false }
def ChainFullSaid : Prop := chainFullRow.holds Try.pinned (OpenSpec.ofChange chainFullSpec)

/-- ITS FALSE NEIGHBOUR: 'it returns false'. Refute it at one input. -/
def chainFullWrong : ChangeSpec := { name := "chainFull", fn := fun _ => fun
  | [d1, d2] => { results := [.lit (.bool false)], args := [d1, d2] }
  | _ => none }
def ChainFullWrongFalsely : Prop := chainFullRow.holds Try.pinned (OpenSpec.ofChange chainFullWrong)

/-- 'locketlaw12.ChainReal': WHATEVER THE INPUT: true; the input reads as it did. -/
def chainRealSpec : ChangeSpec := { name := "chainReal", fn := fun _ => fun
  | [d1, d2] => { results := [.lit (.bool true)], args := [d1, d2] }
  | _ => none }
def chainRealRow : OpenClaim := { program := "ythpigmkdchnnoaa", sum := "e557dd94ddbe402b302612d62cb5e408114d09673d5b7de24be47a29e34d815d", func := "locket/locketlaw12.ChainReal", spec := "chainReal", plainKeys := false, apart := false }
def ChainRealSaid : Prop := chainRealRow.holds Try.pinned (OpenSpec.ofChange chainRealSpec)

/-- ITS FALSE NEIGHBOUR: 'it returns false'. Refute it at one input. -/
def chainRealWrong : ChangeSpec := { name := "chainReal", fn := fun _ => fun
  | [d1, d2] => { results := [.lit (.bool false)], args := [d1, d2] }
  | _ => none }
def ChainRealWrongFalsely : Prop := chainRealRow.holds Try.pinned (OpenSpec.ofChange chainRealWrong)

/-- 'locketlaw12.ChainPlays': WHATEVER THE INPUT: true; the input reads as it did. -/
def chainPlaysSpec : ChangeSpec := { name := "chainPlays", fn := fun _ => fun
  | [d1, d2, d3, d4] => { results := [.lit (.bool true)], args := [d1, d2, d3, d4] }
  | _ => none }
def chainPlaysRow : OpenClaim := { program := "ythpigmkdchnnoaa", sum := "e557dd94ddbe402b302612d62cb5e408114d09673d5b7de24be47a29e34d815d", func := "locket/locketlaw12.ChainPlays", spec := "chainPlays", plainKeys := false, apart := false }
def ChainPlaysSaid : Prop := chainPlaysRow.holds Try.pinned (OpenSpec.ofChange chainPlaysSpec)

/-- ITS FALSE NEIGHBOUR: 'it returns false'. Refute it at one input. -/
def chainPlaysWrong : ChangeSpec := { name := "chainPlays", fn := fun _ => fun
  | [d1, d2, d3, d4] => { results := [.lit (.bool false)], args := [d1, d2, d3, d4] }
  | _ => none }
def ChainPlaysWrongFalsely : Prop := chainPlaysRow.holds Try.pinned (OpenSpec.ofChange chainPlaysWrong)

/-- 'locketlaw12.ChainForks': WHATEVER THE INPUT: true; the input reads as it did. -/
def chainForksSpec : ChangeSpec := { name := "chainForks", fn := fun _ => fun
  | [d1, d2, d3, d4] => { results := [.lit (.bool true)], args := [d1, d2, d3, d4] }
  | _ => none }
def chainForksRow : OpenClaim := { program := "ythpigmkdchnnoaa", sum := "e557dd94ddbe402b302612d62cb5e408114d09673d5b7de24be47a29e34d815d", func := "locket/locketlaw12.ChainForks", spec := "chainForks", plainKeys := false, apart := false }
def ChainForksSaid : Prop := chainForksRow.holds Try.pinned (OpenSpec.ofChange chainForksSpec)

/-- ITS FALSE NEIGHBOUR: 'it returns false'. Refute it at one input. -/
def chainForksWrong : ChangeSpec := { name := "chainForks", fn := fun _ => fun
  | [d1, d2, d3, d4] => { results := [.lit (.bool false)], args := [d1, d2, d3, d4] }
  | _ => none }
def ChainForksWrongFalsely : Prop := chainForksRow.holds Try.pinned (OpenSpec.ofChange chainForksWrong)

/-- 'locketlaw12.ChainOwn': WHATEVER THE INPUT: true; the input reads as it did. -/
def chainOwnSpec : ChangeSpec := { name := "chainOwn", fn := fun _ => fun
  | [d] => { results := [.lit (.bool true)], args := [d] }
  | _ => none }
def chainOwnRow : OpenClaim := { program := "ythpigmkdchnnoaa", sum := "e557dd94ddbe402b302612d62cb5e408114d09673d5b7de24be47a29e34d815d", func := "locket/locketlaw12.ChainOwn", spec := "chainOwn", plainKeys := false, apart := false }
def ChainOwnSaid : Prop := chainOwnRow.holds Try.pinned (OpenSpec.ofChange chainOwnSpec)

/-- ITS FALSE NEIGHBOUR: 'it returns false'. Refute it at one input. -/
def chainOwnWrong : ChangeSpec := { name := "chainOwn", fn := fun _ => fun
  | [d] => { results := [.lit (.bool false)], args := [d] }
  | _ => none }
def ChainOwnWrongFalsely : Prop := chainOwnRow.holds Try.pinned (OpenSpec.ofChange chainOwnWrong)

/- THE SECOND FORM. 'bulk': how many values and letters a reading holds, each counted each time it is reached (what is shared counts as often as it is met; a slice's spare places count too). A statement '..UptoSaid' is the law's where the arguments, and the package variables that the reading takes, are together of bulk at most 1048576: NARROWER than '..Said'. Prove '..Said' where nothing that the law and all that it calls make is longer than what came in: it says more and counts as full. Else prove '..UptoSaid'. A law counts once. -/
mutual
def uptoBulk {H : Type} : DataW H → Nat
  | .lit (.string bytes) => bytes.length + 1
  | .lit _ => 1
  | .nil => 1
  | .ptr d => uptoBulk d + 1
  | .slice elems spare => uptoBulkAll elems + uptoBulkAll spare + 1
  | .agg parts => uptoBulkAll parts + 1
  | .iface _ d => uptoBulk d + 1
  | .map entries => uptoBulkEntries entries + 1
  | .held _ => 1
def uptoBulkAll {H : Type} : List (DataW H) → Nat
  | [] => 0
  | d :: r => uptoBulk d + uptoBulkAll r
def uptoBulkEntries {H : Type} : List (Lit × DataW H) → Nat
  | [] => 0
  | x :: r => uptoBulkEntry x + uptoBulkEntries r
def uptoBulkEntry {H : Type} : Lit × DataW H → Nat
  | (.string bytes, d) => bytes.length + uptoBulk d + 1
  | (_, d) => uptoBulk d + 1
 end
def uptoSmall : (H : Type) → List (DataW H) → Bool := fun _ ds => decide (uptoBulkAll ds ≤ 1048576)
def OpenSpec.upto (s : _root_.Go.ChangeSpec) : _root_.Go.OpenSpec := { _root_.Go.OpenSpec.ofChange s with cond := some uptoSmall }

/-- 'locketlaw12.ChainGrows', WHERE WHAT IT READS IS OF BULK AT MOST 1048576: true; the input reads as it did. -/
def chainGrowsUptoRow : OpenClaim := { program := "ythpigmkdchnnoaa", sum := "e557dd94ddbe402b302612d62cb5e408114d09673d5b7de24be47a29e34d815d", func := "locket/locketlaw12.ChainGrows", spec := "chainGrows", plainKeys := false, apart := false, narrowed := true }
def ChainGrowsUptoSaid : Prop := chainGrowsUptoRow.holds Try.pinned (OpenSpec.upto chainGrowsSpec)

/-- 'locketlaw12.ChainFull', WHERE WHAT IT READS IS OF BULK AT MOST 1048576: true; the input reads as it did. -/
def chainFullUptoRow : OpenClaim := { program := "ythpigmkdchnnoaa", sum := "e557dd94ddbe402b302612d62cb5e408114d09673d5b7de24be47a29e34d815d", func := "locket/locketlaw12.ChainFull", spec := "chainFull", plainKeys := false, apart := false, narrowed := true }
def ChainFullUptoSaid : Prop := chainFullUptoRow.holds Try.pinned (OpenSpec.upto chainFullSpec)

/-- 'locketlaw12.ChainReal', WHERE WHAT IT READS IS OF BULK AT MOST 1048576: true; the input reads as it did. -/
def chainRealUptoRow : OpenClaim := { program := "ythpigmkdchnnoaa", sum := "e557dd94ddbe402b302612d62cb5e408114d09673d5b7de24be47a29e34d815d", func := "locket/locketlaw12.ChainReal", spec := "chainReal", plainKeys := false, apart := false, narrowed := true }
def ChainRealUptoSaid : Prop := chainRealUptoRow.holds Try.pinned (OpenSpec.upto chainRealSpec)

/-- 'locketlaw12.ChainPlays', WHERE WHAT IT READS IS OF BULK AT MOST 1048576: true; the input reads as it did. -/
def chainPlaysUptoRow : OpenClaim := { program := "ythpigmkdchnnoaa", sum := "e557dd94ddbe402b302612d62cb5e408114d09673d5b7de24be47a29e34d815d", func := "locket/locketlaw12.ChainPlays", spec := "chainPlays", plainKeys := false, apart := false, narrowed := true }
def ChainPlaysUptoSaid : Prop := chainPlaysUptoRow.holds Try.pinned (OpenSpec.upto chainPlaysSpec)

/-- 'locketlaw12.ChainForks', WHERE WHAT IT READS IS OF BULK AT MOST 1048576: true; the input reads as it did. -/
def chainForksUptoRow : OpenClaim := { program := "ythpigmkdchnnoaa", sum := "e557dd94ddbe402b302612d62cb5e408114d09673d5b7de24be47a29e34d815d", func := "locket/locketlaw12.ChainForks", spec := "chainForks", plainKeys := false, apart := false, narrowed := true }
def ChainForksUptoSaid : Prop := chainForksUptoRow.holds Try.pinned (OpenSpec.upto chainForksSpec)

/-- 'locketlaw12.ChainOwn', WHERE WHAT IT READS IS OF BULK AT MOST 1048576: true; the input reads as it did. -/
def chainOwnUptoRow : OpenClaim := { program := "ythpigmkdchnnoaa", sum := "e557dd94ddbe402b302612d62cb5e408114d09673d5b7de24be47a29e34d815d", func := "locket/locketlaw12.ChainOwn", spec := "chainOwn", plainKeys := false, apart := false, narrowed := true }
def ChainOwnUptoSaid : Prop := chainOwnUptoRow.holds Try.pinned (OpenSpec.upto chainOwnSpec)

end Rows
end Go.Proofs.Ythpigmkdchnnoaa
