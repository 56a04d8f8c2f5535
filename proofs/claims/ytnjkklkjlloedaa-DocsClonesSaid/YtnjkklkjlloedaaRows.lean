/-
  No cell of these rows narrows 'for every input' (looked for: loops, veiled, ifaces, maps, wideKeys, modest, calm, conditions, laid).
  DERIVED. THE GIVEN ROWS OF THIS SEAT. 12 by the template 'for every input the law returns true; each argument reads behind the call as it read before'; 0 by the template 'total and deterministic' (their statements: YtnjkklkjlloedaaTotals.lean).
  GIVEN WITH THE SEED: the statements are not yours to turn. If you find one false, say at which input.
  Laid BY PROGRAM, IN A SANDBOX (cutbox-rows.mjs): the forced cells as the released guide's own fill.sh prints them over the translation 2d417e089f895255… (all of the seat's roots in one cut). By AI agents, Wed Nov 11 2026. No macro, syntax, notation, axiom, sorry.
-/
import Derived.Test.YtnjkklkjlloedaaChecked
import GoSem.Claim
import GoSem.ClaimJoined
import GoSem.ClaimMapViews
import Derived.JoinedTies
import Derived.KernelRfl
namespace Go.Proofs.Ytnjkklkjlloedaa
/- THE CELL 'sum', in the pinned program and in every row, IS THE sha256 OF THE DUMP (.gsa) THAT YtnjkklkjlloedaaProg.lean LOADS. Nothing in Lean hashes anything: it is a label: what it is worth is what the hold of that sum in a sandbox is worth. -/
noncomputable def Try.pinned : Pinned := { name := "ytnjkklkjlloedaa", sum := "2d417e089f8952551278c2a879c053161578e57fe9d01c77dd73d627133ac27c", checked := Try.checked }
namespace Rows
def none {H : Type} : Left H := { results := [], args := [] }

/-- 'locketlaw19.ServerGrows': WHATEVER THE INPUT: true; the input reads as it did. -/
def serverGrowsSpec : ChangeSpec := { name := "serverGrows", fn := fun _ => fun
  | [d] => { results := [.lit (.bool true)], args := [d] }
  | _ => none }
def serverGrowsRow : OpenClaim := { program := "ytnjkklkjlloedaa", sum := "2d417e089f8952551278c2a879c053161578e57fe9d01c77dd73d627133ac27c", func := "locket/locketlaw19.ServerGrows", spec := "serverGrows", unfollowed := true, recurses := true, plainKeys := false, apart := false }
def ServerGrowsSaid : Prop := serverGrowsRow.holds Try.pinned (OpenSpec.ofChange serverGrowsSpec)

/-- ITS FALSE NEIGHBOUR: 'it returns false'. Refute it at one input. -/
def serverGrowsWrong : ChangeSpec := { name := "serverGrows", fn := fun _ => fun
  | [d] => { results := [.lit (.bool false)], args := [d] }
  | _ => none }
def ServerGrowsWrongFalsely : Prop := serverGrowsRow.holds Try.pinned (OpenSpec.ofChange serverGrowsWrong)

/-- 'locketlaw19.ServerReads': WHATEVER THE INPUT: true; the input reads as it did. -/
def serverReadsSpec : ChangeSpec := { name := "serverReads", fn := fun _ => fun
  | [d] => { results := [.lit (.bool true)], args := [d] }
  | _ => none }
def serverReadsRow : OpenClaim := { program := "ytnjkklkjlloedaa", sum := "2d417e089f8952551278c2a879c053161578e57fe9d01c77dd73d627133ac27c", func := "locket/locketlaw19.ServerReads", spec := "serverReads", unfollowed := true, recurses := true, plainKeys := false, apart := false }
def ServerReadsSaid : Prop := serverReadsRow.holds Try.pinned (OpenSpec.ofChange serverReadsSpec)

/-- ITS FALSE NEIGHBOUR: 'it returns false'. Refute it at one input. -/
def serverReadsWrong : ChangeSpec := { name := "serverReads", fn := fun _ => fun
  | [d] => { results := [.lit (.bool false)], args := [d] }
  | _ => none }
def ServerReadsWrongFalsely : Prop := serverReadsRow.holds Try.pinned (OpenSpec.ofChange serverReadsWrong)

/-- 'locketlaw19.ServerApart': WHATEVER THE INPUT: true; the input reads as it did. -/
def serverApartSpec : ChangeSpec := { name := "serverApart", fn := fun _ => fun
  | [d1, d2, d3] => { results := [.lit (.bool true)], args := [d1, d2, d3] }
  | _ => none }
def serverApartRow : OpenClaim := { program := "ytnjkklkjlloedaa", sum := "2d417e089f8952551278c2a879c053161578e57fe9d01c77dd73d627133ac27c", func := "locket/locketlaw19.ServerApart", spec := "serverApart", unfollowed := true, recurses := true, plainKeys := false, apart := false }
def ServerApartSaid : Prop := serverApartRow.holds Try.pinned (OpenSpec.ofChange serverApartSpec)

/-- ITS FALSE NEIGHBOUR: 'it returns false'. Refute it at one input. -/
def serverApartWrong : ChangeSpec := { name := "serverApart", fn := fun _ => fun
  | [d1, d2, d3] => { results := [.lit (.bool false)], args := [d1, d2, d3] }
  | _ => none }
def ServerApartWrongFalsely : Prop := serverApartRow.holds Try.pinned (OpenSpec.ofChange serverApartWrong)

/-- 'locketlaw19.ServerBlind': WHATEVER THE INPUT: true; the input reads as it did. -/
def serverBlindSpec : ChangeSpec := { name := "serverBlind", fn := fun _ => fun
  | [d] => { results := [.lit (.bool true)], args := [d] }
  | _ => none }
def serverBlindRow : OpenClaim := { program := "ytnjkklkjlloedaa", sum := "2d417e089f8952551278c2a879c053161578e57fe9d01c77dd73d627133ac27c", func := "locket/locketlaw19.ServerBlind", spec := "serverBlind", unfollowed := true, recurses := true, plainKeys := false, apart := false }
def ServerBlindSaid : Prop := serverBlindRow.holds Try.pinned (OpenSpec.ofChange serverBlindSpec)

/-- ITS FALSE NEIGHBOUR: 'it returns false'. Refute it at one input. -/
def serverBlindWrong : ChangeSpec := { name := "serverBlind", fn := fun _ => fun
  | [d] => { results := [.lit (.bool false)], args := [d] }
  | _ => none }
def ServerBlindWrongFalsely : Prop := serverBlindRow.holds Try.pinned (OpenSpec.ofChange serverBlindWrong)

/-- 'locketlaw19.ServerForks': WHATEVER THE INPUT: true; the input reads as it did. -/
def serverForksSpec : ChangeSpec := { name := "serverForks", fn := fun _ => fun
  | [d1, d2, d3] => { results := [.lit (.bool true)], args := [d1, d2, d3] }
  | _ => none }
def serverForksRow : OpenClaim := { program := "ytnjkklkjlloedaa", sum := "2d417e089f8952551278c2a879c053161578e57fe9d01c77dd73d627133ac27c", func := "locket/locketlaw19.ServerForks", spec := "serverForks", unfollowed := true, recurses := true, plainKeys := false, apart := false }
def ServerForksSaid : Prop := serverForksRow.holds Try.pinned (OpenSpec.ofChange serverForksSpec)

/-- ITS FALSE NEIGHBOUR: 'it returns false'. Refute it at one input. -/
def serverForksWrong : ChangeSpec := { name := "serverForks", fn := fun _ => fun
  | [d1, d2, d3] => { results := [.lit (.bool false)], args := [d1, d2, d3] }
  | _ => none }
def ServerForksWrongFalsely : Prop := serverForksRow.holds Try.pinned (OpenSpec.ofChange serverForksWrong)

/-- 'locketlaw11.DocsOthers': WHATEVER THE INPUT: true; the input reads as it did. -/
def docsOthersSpec : ChangeSpec := { name := "docsOthers", fn := fun _ => fun
  | [d1, d2] => { results := [.lit (.bool true)], args := [d1, d2] }
  | _ => none }
def docsOthersRow : OpenClaim := { program := "ytnjkklkjlloedaa", sum := "2d417e089f8952551278c2a879c053161578e57fe9d01c77dd73d627133ac27c", func := "locket/locketlaw11.DocsOthers", spec := "docsOthers", unfollowed := true, recurses := true, plainKeys := false, apart := false }
def DocsOthersSaid : Prop := docsOthersRow.holds Try.pinned (OpenSpec.ofChange docsOthersSpec)

/-- ITS FALSE NEIGHBOUR: 'it returns false'. Refute it at one input. -/
def docsOthersWrong : ChangeSpec := { name := "docsOthers", fn := fun _ => fun
  | [d1, d2] => { results := [.lit (.bool false)], args := [d1, d2] }
  | _ => none }
def DocsOthersWrongFalsely : Prop := docsOthersRow.holds Try.pinned (OpenSpec.ofChange docsOthersWrong)

/-- 'locketlaw11.DocsPlays': WHATEVER THE INPUT: true; the input reads as it did. -/
def docsPlaysSpec : ChangeSpec := { name := "docsPlays", fn := fun _ => fun
  | [d1, d2] => { results := [.lit (.bool true)], args := [d1, d2] }
  | _ => none }
def docsPlaysRow : OpenClaim := { program := "ytnjkklkjlloedaa", sum := "2d417e089f8952551278c2a879c053161578e57fe9d01c77dd73d627133ac27c", func := "locket/locketlaw11.DocsPlays", spec := "docsPlays", unfollowed := true, recurses := true, plainKeys := false, apart := false }
def DocsPlaysSaid : Prop := docsPlaysRow.holds Try.pinned (OpenSpec.ofChange docsPlaysSpec)

/-- ITS FALSE NEIGHBOUR: 'it returns false'. Refute it at one input. -/
def docsPlaysWrong : ChangeSpec := { name := "docsPlays", fn := fun _ => fun
  | [d1, d2] => { results := [.lit (.bool false)], args := [d1, d2] }
  | _ => none }
def DocsPlaysWrongFalsely : Prop := docsPlaysRow.holds Try.pinned (OpenSpec.ofChange docsPlaysWrong)

/-- 'locketlaw11.DocsLast': WHATEVER THE INPUT: true; the input reads as it did. -/
def docsLastSpec : ChangeSpec := { name := "docsLast", fn := fun _ => fun
  | [d1, d2, d3] => { results := [.lit (.bool true)], args := [d1, d2, d3] }
  | _ => none }
def docsLastRow : OpenClaim := { program := "ytnjkklkjlloedaa", sum := "2d417e089f8952551278c2a879c053161578e57fe9d01c77dd73d627133ac27c", func := "locket/locketlaw11.DocsLast", spec := "docsLast", unfollowed := true, recurses := true, plainKeys := false, apart := false }
def DocsLastSaid : Prop := docsLastRow.holds Try.pinned (OpenSpec.ofChange docsLastSpec)

/-- ITS FALSE NEIGHBOUR: 'it returns false'. Refute it at one input. -/
def docsLastWrong : ChangeSpec := { name := "docsLast", fn := fun _ => fun
  | [d1, d2, d3] => { results := [.lit (.bool false)], args := [d1, d2, d3] }
  | _ => none }
def DocsLastWrongFalsely : Prop := docsLastRow.holds Try.pinned (OpenSpec.ofChange docsLastWrong)

/-- 'locketlaw11.DocsOrder': WHATEVER THE INPUT: true; the input reads as it did. -/
def docsOrderSpec : ChangeSpec := { name := "docsOrder", fn := fun _ => fun
  | [d1, d2] => { results := [.lit (.bool true)], args := [d1, d2] }
  | _ => none }
def docsOrderRow : OpenClaim := { program := "ytnjkklkjlloedaa", sum := "2d417e089f8952551278c2a879c053161578e57fe9d01c77dd73d627133ac27c", func := "locket/locketlaw11.DocsOrder", spec := "docsOrder", unfollowed := true, recurses := true, plainKeys := false, apart := false }
def DocsOrderSaid : Prop := docsOrderRow.holds Try.pinned (OpenSpec.ofChange docsOrderSpec)

/-- ITS FALSE NEIGHBOUR: 'it returns false'. Refute it at one input. -/
def docsOrderWrong : ChangeSpec := { name := "docsOrder", fn := fun _ => fun
  | [d1, d2] => { results := [.lit (.bool false)], args := [d1, d2] }
  | _ => none }
def DocsOrderWrongFalsely : Prop := docsOrderRow.holds Try.pinned (OpenSpec.ofChange docsOrderWrong)

/-- 'locketlaw11.DocsClones': WHATEVER THE INPUT: true; the input reads as it did. -/
def docsClonesSpec : ChangeSpec := { name := "docsClones", fn := fun _ => fun
  | [d1, d2] => { results := [.lit (.bool true)], args := [d1, d2] }
  | _ => none }
def docsClonesRow : OpenClaim := { program := "ytnjkklkjlloedaa", sum := "2d417e089f8952551278c2a879c053161578e57fe9d01c77dd73d627133ac27c", func := "locket/locketlaw11.DocsClones", spec := "docsClones", inPlace := ["maps.clone"], unfollowed := true, recurses := true, plainKeys := false, apart := false }
def DocsClonesSaid : Prop := docsClonesRow.holds Try.pinned (OpenSpec.ofChange docsClonesSpec)

/-- ITS FALSE NEIGHBOUR: 'it returns false'. Refute it at one input. -/
def docsClonesWrong : ChangeSpec := { name := "docsClones", fn := fun _ => fun
  | [d1, d2] => { results := [.lit (.bool false)], args := [d1, d2] }
  | _ => none }
def DocsClonesWrongFalsely : Prop := docsClonesRow.holds Try.pinned (OpenSpec.ofChange docsClonesWrong)

/-- 'locketlaw17.FrameKinds': WHATEVER THE INPUT: true; the input reads as it did. -/
def frameKindsSpec : ChangeSpec := { name := "frameKinds", fn := fun _ => fun
  | [d1, d2, d3, d4] => { results := [.lit (.bool true)], args := [d1, d2, d3, d4] }
  | _ => none }
def frameKindsRow : OpenClaim := { program := "ytnjkklkjlloedaa", sum := "2d417e089f8952551278c2a879c053161578e57fe9d01c77dd73d627133ac27c", func := "locket/locketlaw17.FrameKinds", spec := "frameKinds", unfollowed := true, recurses := true, plainKeys := false, apart := false }
def FrameKindsSaid : Prop := frameKindsRow.holds Try.pinned (OpenSpec.ofChange frameKindsSpec)

/-- ITS FALSE NEIGHBOUR: 'it returns false'. Refute it at one input. -/
def frameKindsWrong : ChangeSpec := { name := "frameKinds", fn := fun _ => fun
  | [d1, d2, d3, d4] => { results := [.lit (.bool false)], args := [d1, d2, d3, d4] }
  | _ => none }
def FrameKindsWrongFalsely : Prop := frameKindsRow.holds Try.pinned (OpenSpec.ofChange frameKindsWrong)

/-- 'locketlaw17.FrameOwn': WHATEVER THE INPUT: true; the input reads as it did. -/
def frameOwnSpec : ChangeSpec := { name := "frameOwn", fn := fun _ => fun
  | [d] => { results := [.lit (.bool true)], args := [d] }
  | _ => none }
def frameOwnRow : OpenClaim := { program := "ytnjkklkjlloedaa", sum := "2d417e089f8952551278c2a879c053161578e57fe9d01c77dd73d627133ac27c", func := "locket/locketlaw17.FrameOwn", spec := "frameOwn", unfollowed := true, recurses := true, plainKeys := false, apart := false }
def FrameOwnSaid : Prop := frameOwnRow.holds Try.pinned (OpenSpec.ofChange frameOwnSpec)

/-- ITS FALSE NEIGHBOUR: 'it returns false'. Refute it at one input. -/
def frameOwnWrong : ChangeSpec := { name := "frameOwn", fn := fun _ => fun
  | [d] => { results := [.lit (.bool false)], args := [d] }
  | _ => none }
def FrameOwnWrongFalsely : Prop := frameOwnRow.holds Try.pinned (OpenSpec.ofChange frameOwnWrong)

/- THE SECOND FORM. 'bulk': how many values and letters a reading holds, each counted each time it is reached (what is shared counts as often as it is met; a slice's spare places count too). A statement '..UptoSaid' is the law's where the arguments, and the package variables that the reading takes, are together of bulk at most 1048576: NARROWER than '..Said'. Prove '..Said' where nothing that the law and all that it calls make is longer than what came in: it says more and counts as full. Else prove '..UptoSaid'. A law counts once. -/
mutual
def uptoBulk {H : Type} : DataW H → Nat
  | .lit (.string bytes) => bytes.length + 1
  | .lit _ => 1
  | .nil => 1
  | .ptr d => uptoBulk d + 1
  | .slice elems spare => uptoBulkAll elems + uptoBulkAll spare + 1
  | .agg parts => uptoBulkAll parts + 1
  | .iface _ d => uptoBulk d + 1
  | .map entries => uptoBulkEntries entries + 1
  | .held _ => 1
def uptoBulkAll {H : Type} : List (DataW H) → Nat
  | [] => 0
  | d :: r => uptoBulk d + uptoBulkAll r
def uptoBulkEntries {H : Type} : List (Lit × DataW H) → Nat
  | [] => 0
  | x :: r => uptoBulkEntry x + uptoBulkEntries r
def uptoBulkEntry {H : Type} : Lit × DataW H → Nat
  | (.string bytes, d) => bytes.length + uptoBulk d + 1
  | (_, d) => uptoBulk d + 1
 end
def uptoSmall : (H : Type) → List (DataW H) → Bool := fun _ ds => decide (uptoBulkAll ds ≤ 1048576)
def OpenSpec.upto (s : _root_.Go.ChangeSpec) : _root_.Go.OpenSpec := { _root_.Go.OpenSpec.ofChange s with cond := some uptoSmall }

/-- 'locketlaw19.ServerGrows', WHERE WHAT IT READS IS OF BULK AT MOST 1048576: true; the input reads as it did. -/
def serverGrowsUptoRow : OpenClaim := { program := "ytnjkklkjlloedaa", sum := "2d417e089f8952551278c2a879c053161578e57fe9d01c77dd73d627133ac27c", func := "locket/locketlaw19.ServerGrows", spec := "serverGrows", unfollowed := true, recurses := true, plainKeys := false, apart := false, narrowed := true }
def ServerGrowsUptoSaid : Prop := serverGrowsUptoRow.holds Try.pinned (OpenSpec.upto serverGrowsSpec)

/-- 'locketlaw19.ServerReads', WHERE WHAT IT READS IS OF BULK AT MOST 1048576: true; the input reads as it did. -/
def serverReadsUptoRow : OpenClaim := { program := "ytnjkklkjlloedaa", sum := "2d417e089f8952551278c2a879c053161578e57fe9d01c77dd73d627133ac27c", func := "locket/locketlaw19.ServerReads", spec := "serverReads", unfollowed := true, recurses := true, plainKeys := false, apart := false, narrowed := true }
def ServerReadsUptoSaid : Prop := serverReadsUptoRow.holds Try.pinned (OpenSpec.upto serverReadsSpec)

/-- 'locketlaw19.ServerApart', WHERE WHAT IT READS IS OF BULK AT MOST 1048576: true; the input reads as it did. -/
def serverApartUptoRow : OpenClaim := { program := "ytnjkklkjlloedaa", sum := "2d417e089f8952551278c2a879c053161578e57fe9d01c77dd73d627133ac27c", func := "locket/locketlaw19.ServerApart", spec := "serverApart", unfollowed := true, recurses := true, plainKeys := false, apart := false, narrowed := true }
def ServerApartUptoSaid : Prop := serverApartUptoRow.holds Try.pinned (OpenSpec.upto serverApartSpec)

/-- 'locketlaw19.ServerBlind', WHERE WHAT IT READS IS OF BULK AT MOST 1048576: true; the input reads as it did. -/
def serverBlindUptoRow : OpenClaim := { program := "ytnjkklkjlloedaa", sum := "2d417e089f8952551278c2a879c053161578e57fe9d01c77dd73d627133ac27c", func := "locket/locketlaw19.ServerBlind", spec := "serverBlind", unfollowed := true, recurses := true, plainKeys := false, apart := false, narrowed := true }
def ServerBlindUptoSaid : Prop := serverBlindUptoRow.holds Try.pinned (OpenSpec.upto serverBlindSpec)

/-- 'locketlaw19.ServerForks', WHERE WHAT IT READS IS OF BULK AT MOST 1048576: true; the input reads as it did. -/
def serverForksUptoRow : OpenClaim := { program := "ytnjkklkjlloedaa", sum := "2d417e089f8952551278c2a879c053161578e57fe9d01c77dd73d627133ac27c", func := "locket/locketlaw19.ServerForks", spec := "serverForks", unfollowed := true, recurses := true, plainKeys := false, apart := false, narrowed := true }
def ServerForksUptoSaid : Prop := serverForksUptoRow.holds Try.pinned (OpenSpec.upto serverForksSpec)

/-- 'locketlaw11.DocsOthers', WHERE WHAT IT READS IS OF BULK AT MOST 1048576: true; the input reads as it did. -/
def docsOthersUptoRow : OpenClaim := { program := "ytnjkklkjlloedaa", sum := "2d417e089f8952551278c2a879c053161578e57fe9d01c77dd73d627133ac27c", func := "locket/locketlaw11.DocsOthers", spec := "docsOthers", unfollowed := true, recurses := true, plainKeys := false, apart := false, narrowed := true }
def DocsOthersUptoSaid : Prop := docsOthersUptoRow.holds Try.pinned (OpenSpec.upto docsOthersSpec)

/-- 'locketlaw11.DocsPlays', WHERE WHAT IT READS IS OF BULK AT MOST 1048576: true; the input reads as it did. -/
def docsPlaysUptoRow : OpenClaim := { program := "ytnjkklkjlloedaa", sum := "2d417e089f8952551278c2a879c053161578e57fe9d01c77dd73d627133ac27c", func := "locket/locketlaw11.DocsPlays", spec := "docsPlays", unfollowed := true, recurses := true, plainKeys := false, apart := false, narrowed := true }
def DocsPlaysUptoSaid : Prop := docsPlaysUptoRow.holds Try.pinned (OpenSpec.upto docsPlaysSpec)

/-- 'locketlaw11.DocsLast', WHERE WHAT IT READS IS OF BULK AT MOST 1048576: true; the input reads as it did. -/
def docsLastUptoRow : OpenClaim := { program := "ytnjkklkjlloedaa", sum := "2d417e089f8952551278c2a879c053161578e57fe9d01c77dd73d627133ac27c", func := "locket/locketlaw11.DocsLast", spec := "docsLast", unfollowed := true, recurses := true, plainKeys := false, apart := false, narrowed := true }
def DocsLastUptoSaid : Prop := docsLastUptoRow.holds Try.pinned (OpenSpec.upto docsLastSpec)

/-- 'locketlaw11.DocsOrder', WHERE WHAT IT READS IS OF BULK AT MOST 1048576: true; the input reads as it did. -/
def docsOrderUptoRow : OpenClaim := { program := "ytnjkklkjlloedaa", sum := "2d417e089f8952551278c2a879c053161578e57fe9d01c77dd73d627133ac27c", func := "locket/locketlaw11.DocsOrder", spec := "docsOrder", unfollowed := true, recurses := true, plainKeys := false, apart := false, narrowed := true }
def DocsOrderUptoSaid : Prop := docsOrderUptoRow.holds Try.pinned (OpenSpec.upto docsOrderSpec)

/-- 'locketlaw11.DocsClones', WHERE WHAT IT READS IS OF BULK AT MOST 1048576: true; the input reads as it did. -/
def docsClonesUptoRow : OpenClaim := { program := "ytnjkklkjlloedaa", sum := "2d417e089f8952551278c2a879c053161578e57fe9d01c77dd73d627133ac27c", func := "locket/locketlaw11.DocsClones", spec := "docsClones", inPlace := ["maps.clone"], unfollowed := true, recurses := true, plainKeys := false, apart := false, narrowed := true }
def DocsClonesUptoSaid : Prop := docsClonesUptoRow.holds Try.pinned (OpenSpec.upto docsClonesSpec)

/-- 'locketlaw17.FrameKinds', WHERE WHAT IT READS IS OF BULK AT MOST 1048576: true; the input reads as it did. -/
def frameKindsUptoRow : OpenClaim := { program := "ytnjkklkjlloedaa", sum := "2d417e089f8952551278c2a879c053161578e57fe9d01c77dd73d627133ac27c", func := "locket/locketlaw17.FrameKinds", spec := "frameKinds", unfollowed := true, recurses := true, plainKeys := false, apart := false, narrowed := true }
def FrameKindsUptoSaid : Prop := frameKindsUptoRow.holds Try.pinned (OpenSpec.upto frameKindsSpec)

/-- 'locketlaw17.FrameOwn', WHERE WHAT IT READS IS OF BULK AT MOST 1048576: true; the input reads as it did. -/
def frameOwnUptoRow : OpenClaim := { program := "ytnjkklkjlloedaa", sum := "2d417e089f8952551278c2a879c053161578e57fe9d01c77dd73d627133ac27c", func := "locket/locketlaw17.FrameOwn", spec := "frameOwn", unfollowed := true, recurses := true, plainKeys := false, apart := false, narrowed := true }
def FrameOwnUptoSaid : Prop := frameOwnUptoRow.holds Try.pinned (OpenSpec.upto frameOwnSpec)

end Rows
end Go.Proofs.Ytnjkklkjlloedaa
