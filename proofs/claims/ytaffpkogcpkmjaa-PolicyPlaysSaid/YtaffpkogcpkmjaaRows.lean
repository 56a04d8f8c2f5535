/-
  No cell of these rows narrows 'for every input' (looked for: loops, veiled, ifaces, maps, wideKeys, modest, calm, conditions, laid).
  DERIVED. THE GIVEN ROWS OF THIS SEAT. 12 by the template 'for every input the law returns true; each argument reads behind the call as it read before'; 0 by the template 'total and deterministic' (their statements: YtaffpkogcpkmjaaTotals.lean).
  GIVEN WITH THE SEED: the statements are not yours to turn. If you find one false, say at which input.
  Laid BY PROGRAM, IN A SANDBOX (cutbox-rows.mjs): the forced cells as the released guide's own fill.sh prints them over the translation 579e7aadca095e69… (all of the seat's roots in one cut). By AI agents, Wed Nov 11 2026. No macro, syntax, notation, axiom, sorry.
-/
import Derived.Test.YtaffpkogcpkmjaaChecked
import GoSem.Claim
import GoSem.ClaimJoined
import GoSem.ClaimMapViews
import Derived.JoinedTies
import Derived.KernelRfl
namespace Go.Proofs.Ytaffpkogcpkmjaa
/- THE CELL 'sum', in the pinned program and in every row, IS THE sha256 OF THE DUMP (.gsa) THAT YtaffpkogcpkmjaaProg.lean LOADS. Nothing in Lean hashes anything: it is a label: what it is worth is what the hold of that sum in a sandbox is worth. -/
noncomputable def Try.pinned : Pinned := { name := "ytaffpkogcpkmjaa", sum := "579e7aadca095e69d64d7415a16bf1c7ca4a69fd3e08f29ba34f35548535012e", checked := Try.checked }
namespace Rows
def none {H : Type} : Left H := { results := [], args := [] }

/-- 'locketlaw09.EntryEncodes': WHATEVER THE INPUT: true; the input reads as it did. -/
def entryEncodesSpec : ChangeSpec := { name := "entryEncodes", fn := fun _ => fun
  | [d] => { results := [.lit (.bool true)], args := [d] }
  | _ => none }
def entryEncodesRow : OpenClaim := { program := "ytaffpkogcpkmjaa", sum := "579e7aadca095e69d64d7415a16bf1c7ca4a69fd3e08f29ba34f35548535012e", func := "locket/locketlaw09.EntryEncodes", spec := "entryEncodes", unfollowed := true, recurses := true, apart := false }
def EntryEncodesSaid : Prop := entryEncodesRow.holds Try.pinned (OpenSpec.ofChange entryEncodesSpec)

/-- ITS FALSE NEIGHBOUR: 'it returns false'. Refute it at one input. -/
def entryEncodesWrong : ChangeSpec := { name := "entryEncodes", fn := fun _ => fun
  | [d] => { results := [.lit (.bool false)], args := [d] }
  | _ => none }
def EntryEncodesWrongFalsely : Prop := entryEncodesRow.holds Try.pinned (OpenSpec.ofChange entryEncodesWrong)

/-- 'locketlaw09.EntryDecodes': WHATEVER THE INPUT: true; the input reads as it did. -/
def entryDecodesSpec : ChangeSpec := { name := "entryDecodes", fn := fun _ => fun
  | [d] => { results := [.lit (.bool true)], args := [d] }
  | _ => none }
def entryDecodesRow : OpenClaim := { program := "ytaffpkogcpkmjaa", sum := "579e7aadca095e69d64d7415a16bf1c7ca4a69fd3e08f29ba34f35548535012e", func := "locket/locketlaw09.EntryDecodes", spec := "entryDecodes", unfollowed := true, recurses := true, apart := false }
def EntryDecodesSaid : Prop := entryDecodesRow.holds Try.pinned (OpenSpec.ofChange entryDecodesSpec)

/-- ITS FALSE NEIGHBOUR: 'it returns false'. Refute it at one input. -/
def entryDecodesWrong : ChangeSpec := { name := "entryDecodes", fn := fun _ => fun
  | [d] => { results := [.lit (.bool false)], args := [d] }
  | _ => none }
def EntryDecodesWrongFalsely : Prop := entryDecodesRow.holds Try.pinned (OpenSpec.ofChange entryDecodesWrong)

/-- 'locketlaw09.EntrySame': WHATEVER THE INPUT: true; the input reads as it did. -/
def entrySameSpec : ChangeSpec := { name := "entrySame", fn := fun _ => fun
  | [d1, d2] => { results := [.lit (.bool true)], args := [d1, d2] }
  | _ => none }
def entrySameRow : OpenClaim := { program := "ytaffpkogcpkmjaa", sum := "579e7aadca095e69d64d7415a16bf1c7ca4a69fd3e08f29ba34f35548535012e", func := "locket/locketlaw09.EntrySame", spec := "entrySame", unfollowed := true, recurses := true, apart := false }
def EntrySameSaid : Prop := entrySameRow.holds Try.pinned (OpenSpec.ofChange entrySameSpec)

/-- ITS FALSE NEIGHBOUR: 'it returns false'. Refute it at one input. -/
def entrySameWrong : ChangeSpec := { name := "entrySame", fn := fun _ => fun
  | [d1, d2] => { results := [.lit (.bool false)], args := [d1, d2] }
  | _ => none }
def EntrySameWrongFalsely : Prop := entrySameRow.holds Try.pinned (OpenSpec.ofChange entrySameWrong)

/-- 'locketlaw09.EntryCuts': WHATEVER THE INPUT: true; the input reads as it did. -/
def entryCutsSpec : ChangeSpec := { name := "entryCuts", fn := fun _ => fun
  | [d1, d2, d3] => { results := [.lit (.bool true)], args := [d1, d2, d3] }
  | _ => none }
def entryCutsRow : OpenClaim := { program := "ytaffpkogcpkmjaa", sum := "579e7aadca095e69d64d7415a16bf1c7ca4a69fd3e08f29ba34f35548535012e", func := "locket/locketlaw09.EntryCuts", spec := "entryCuts", unfollowed := true, recurses := true, apart := false }
def EntryCutsSaid : Prop := entryCutsRow.holds Try.pinned (OpenSpec.ofChange entryCutsSpec)

/-- ITS FALSE NEIGHBOUR: 'it returns false'. Refute it at one input. -/
def entryCutsWrong : ChangeSpec := { name := "entryCuts", fn := fun _ => fun
  | [d1, d2, d3] => { results := [.lit (.bool false)], args := [d1, d2, d3] }
  | _ => none }
def EntryCutsWrongFalsely : Prop := entryCutsRow.holds Try.pinned (OpenSpec.ofChange entryCutsWrong)

/-- 'locketlaw09.EntryKinds': WHATEVER THE INPUT: true; the input reads as it did. -/
def entryKindsSpec : ChangeSpec := { name := "entryKinds", fn := fun _ => fun
  | [d1, d2] => { results := [.lit (.bool true)], args := [d1, d2] }
  | _ => none }
def entryKindsRow : OpenClaim := { program := "ytaffpkogcpkmjaa", sum := "579e7aadca095e69d64d7415a16bf1c7ca4a69fd3e08f29ba34f35548535012e", func := "locket/locketlaw09.EntryKinds", spec := "entryKinds", unfollowed := true, recurses := true, apart := false }
def EntryKindsSaid : Prop := entryKindsRow.holds Try.pinned (OpenSpec.ofChange entryKindsSpec)

/-- ITS FALSE NEIGHBOUR: 'it returns false'. Refute it at one input. -/
def entryKindsWrong : ChangeSpec := { name := "entryKinds", fn := fun _ => fun
  | [d1, d2] => { results := [.lit (.bool false)], args := [d1, d2] }
  | _ => none }
def EntryKindsWrongFalsely : Prop := entryKindsRow.holds Try.pinned (OpenSpec.ofChange entryKindsWrong)

/-- 'locketlaw09.EntryOwn': WHATEVER THE INPUT: true; the input reads as it did. -/
def entryOwnSpec : ChangeSpec := { name := "entryOwn", fn := fun _ => fun
  | [d] => { results := [.lit (.bool true)], args := [d] }
  | _ => none }
def entryOwnRow : OpenClaim := { program := "ytaffpkogcpkmjaa", sum := "579e7aadca095e69d64d7415a16bf1c7ca4a69fd3e08f29ba34f35548535012e", func := "locket/locketlaw09.EntryOwn", spec := "entryOwn", unfollowed := true, recurses := true, apart := false }
def EntryOwnSaid : Prop := entryOwnRow.holds Try.pinned (OpenSpec.ofChange entryOwnSpec)

/-- ITS FALSE NEIGHBOUR: 'it returns false'. Refute it at one input. -/
def entryOwnWrong : ChangeSpec := { name := "entryOwn", fn := fun _ => fun
  | [d] => { results := [.lit (.bool false)], args := [d] }
  | _ => none }
def EntryOwnWrongFalsely : Prop := entryOwnRow.holds Try.pinned (OpenSpec.ofChange entryOwnWrong)

/-- 'locketlaw10.PolicyPlays': WHATEVER THE INPUT: true; the input reads as it did. -/
def policyPlaysSpec : ChangeSpec := { name := "policyPlays", fn := fun _ => fun
  | [d1, d2] => { results := [.lit (.bool true)], args := [d1, d2] }
  | _ => none }
def policyPlaysRow : OpenClaim := { program := "ytaffpkogcpkmjaa", sum := "579e7aadca095e69d64d7415a16bf1c7ca4a69fd3e08f29ba34f35548535012e", func := "locket/locketlaw10.PolicyPlays", spec := "policyPlays", inPlace := ["slices.overlaps[locket/policy.Member]"], unfollowed := true, recurses := true, apart := false }
def PolicyPlaysSaid : Prop := policyPlaysRow.holds Try.pinned (OpenSpec.ofChange policyPlaysSpec)

/-- ITS FALSE NEIGHBOUR: 'it returns false'. Refute it at one input. -/
def policyPlaysWrong : ChangeSpec := { name := "policyPlays", fn := fun _ => fun
  | [d1, d2] => { results := [.lit (.bool false)], args := [d1, d2] }
  | _ => none }
def PolicyPlaysWrongFalsely : Prop := policyPlaysRow.holds Try.pinned (OpenSpec.ofChange policyPlaysWrong)

/-- 'locketlaw10.PolicyForms': WHATEVER THE INPUT: true; the input reads as it did. -/
def policyFormsSpec : ChangeSpec := { name := "policyForms", fn := fun _ => fun
  | [d1, d2] => { results := [.lit (.bool true)], args := [d1, d2] }
  | _ => none }
def policyFormsRow : OpenClaim := { program := "ytaffpkogcpkmjaa", sum := "579e7aadca095e69d64d7415a16bf1c7ca4a69fd3e08f29ba34f35548535012e", func := "locket/locketlaw10.PolicyForms", spec := "policyForms", inPlace := ["slices.overlaps[locket/policy.Member]"], unfollowed := true, recurses := true, apart := false }
def PolicyFormsSaid : Prop := policyFormsRow.holds Try.pinned (OpenSpec.ofChange policyFormsSpec)

/-- ITS FALSE NEIGHBOUR: 'it returns false'. Refute it at one input. -/
def policyFormsWrong : ChangeSpec := { name := "policyForms", fn := fun _ => fun
  | [d1, d2] => { results := [.lit (.bool false)], args := [d1, d2] }
  | _ => none }
def PolicyFormsWrongFalsely : Prop := policyFormsRow.holds Try.pinned (OpenSpec.ofChange policyFormsWrong)

/-- 'locketlaw10.PolicyFounder': WHATEVER THE INPUT: true; the input reads as it did. -/
def policyFounderSpec : ChangeSpec := { name := "policyFounder", fn := fun _ => fun
  | [d1, d2] => { results := [.lit (.bool true)], args := [d1, d2] }
  | _ => none }
def policyFounderRow : OpenClaim := { program := "ytaffpkogcpkmjaa", sum := "579e7aadca095e69d64d7415a16bf1c7ca4a69fd3e08f29ba34f35548535012e", func := "locket/locketlaw10.PolicyFounder", spec := "policyFounder", inPlace := ["slices.overlaps[locket/policy.Member]"], unfollowed := true, recurses := true, apart := false }
def PolicyFounderSaid : Prop := policyFounderRow.holds Try.pinned (OpenSpec.ofChange policyFounderSpec)

/-- ITS FALSE NEIGHBOUR: 'it returns false'. Refute it at one input. -/
def policyFounderWrong : ChangeSpec := { name := "policyFounder", fn := fun _ => fun
  | [d1, d2] => { results := [.lit (.bool false)], args := [d1, d2] }
  | _ => none }
def PolicyFounderWrongFalsely : Prop := policyFounderRow.holds Try.pinned (OpenSpec.ofChange policyFounderWrong)

/-- 'locketlaw10.PolicyOwn': WHATEVER THE INPUT: true; the input reads as it did. -/
def policyOwnSpec : ChangeSpec := { name := "policyOwn", fn := fun _ => fun
  | [d1, d2] => { results := [.lit (.bool true)], args := [d1, d2] }
  | _ => none }
def policyOwnRow : OpenClaim := { program := "ytaffpkogcpkmjaa", sum := "579e7aadca095e69d64d7415a16bf1c7ca4a69fd3e08f29ba34f35548535012e", func := "locket/locketlaw10.PolicyOwn", spec := "policyOwn", inPlace := ["slices.overlaps[locket/policy.Member]"], unfollowed := true, recurses := true, apart := false }
def PolicyOwnSaid : Prop := policyOwnRow.holds Try.pinned (OpenSpec.ofChange policyOwnSpec)

/-- ITS FALSE NEIGHBOUR: 'it returns false'. Refute it at one input. -/
def policyOwnWrong : ChangeSpec := { name := "policyOwn", fn := fun _ => fun
  | [d1, d2] => { results := [.lit (.bool false)], args := [d1, d2] }
  | _ => none }
def PolicyOwnWrongFalsely : Prop := policyOwnRow.holds Try.pinned (OpenSpec.ofChange policyOwnWrong)

/-- 'locketlaw10.PolicyGrants': WHATEVER THE INPUT: true; the input reads as it did. -/
def policyGrantsSpec : ChangeSpec := { name := "policyGrants", fn := fun _ => fun
  | [d1, d2] => { results := [.lit (.bool true)], args := [d1, d2] }
  | _ => none }
def policyGrantsRow : OpenClaim := { program := "ytaffpkogcpkmjaa", sum := "579e7aadca095e69d64d7415a16bf1c7ca4a69fd3e08f29ba34f35548535012e", func := "locket/locketlaw10.PolicyGrants", spec := "policyGrants", inPlace := ["slices.overlaps[locket/policy.Member]"], unfollowed := true, recurses := true, apart := false }
def PolicyGrantsSaid : Prop := policyGrantsRow.holds Try.pinned (OpenSpec.ofChange policyGrantsSpec)

/-- ITS FALSE NEIGHBOUR: 'it returns false'. Refute it at one input. -/
def policyGrantsWrong : ChangeSpec := { name := "policyGrants", fn := fun _ => fun
  | [d1, d2] => { results := [.lit (.bool false)], args := [d1, d2] }
  | _ => none }
def PolicyGrantsWrongFalsely : Prop := policyGrantsRow.holds Try.pinned (OpenSpec.ofChange policyGrantsWrong)

/-- 'locketlaw10.PolicyRotates': WHATEVER THE INPUT: true; the input reads as it did. -/
def policyRotatesSpec : ChangeSpec := { name := "policyRotates", fn := fun _ => fun
  | [d1, d2, d3] => { results := [.lit (.bool true)], args := [d1, d2, d3] }
  | _ => none }
def policyRotatesRow : OpenClaim := { program := "ytaffpkogcpkmjaa", sum := "579e7aadca095e69d64d7415a16bf1c7ca4a69fd3e08f29ba34f35548535012e", func := "locket/locketlaw10.PolicyRotates", spec := "policyRotates", inPlace := ["slices.overlaps[locket/policy.Member]"], unfollowed := true, recurses := true, apart := false }
def PolicyRotatesSaid : Prop := policyRotatesRow.holds Try.pinned (OpenSpec.ofChange policyRotatesSpec)

/-- ITS FALSE NEIGHBOUR: 'it returns false'. Refute it at one input. -/
def policyRotatesWrong : ChangeSpec := { name := "policyRotates", fn := fun _ => fun
  | [d1, d2, d3] => { results := [.lit (.bool false)], args := [d1, d2, d3] }
  | _ => none }
def PolicyRotatesWrongFalsely : Prop := policyRotatesRow.holds Try.pinned (OpenSpec.ofChange policyRotatesWrong)

/- THE SECOND FORM. 'bulk': how many values and letters a reading holds, each counted each time it is reached (what is shared counts as often as it is met; a slice's spare places count too). A statement '..UptoSaid' is the law's where the arguments, and the package variables that the reading takes, are together of bulk at most 1048576: NARROWER than '..Said'. Prove '..Said' where nothing that the law and all that it calls make is longer than what came in: it says more and counts as full. Else prove '..UptoSaid'. A law counts once. -/
mutual
def uptoBulk {H : Type} : DataW H → Nat
  | .lit (.string bytes) => bytes.length + 1
  | .lit _ => 1
  | .nil => 1
  | .ptr d => uptoBulk d + 1
  | .slice elems spare => uptoBulkAll elems + uptoBulkAll spare + 1
  | .agg parts => uptoBulkAll parts + 1
  | .iface _ d => uptoBulk d + 1
  | .map entries => uptoBulkEntries entries + 1
  | .held _ => 1
def uptoBulkAll {H : Type} : List (DataW H) → Nat
  | [] => 0
  | d :: r => uptoBulk d + uptoBulkAll r
def uptoBulkEntries {H : Type} : List (Lit × DataW H) → Nat
  | [] => 0
  | x :: r => uptoBulkEntry x + uptoBulkEntries r
def uptoBulkEntry {H : Type} : Lit × DataW H → Nat
  | (.string bytes, d) => bytes.length + uptoBulk d + 1
  | (_, d) => uptoBulk d + 1
 end
def uptoSmall : (H : Type) → List (DataW H) → Bool := fun _ ds => decide (uptoBulkAll ds ≤ 1048576)
def OpenSpec.upto (s : _root_.Go.ChangeSpec) : _root_.Go.OpenSpec := { _root_.Go.OpenSpec.ofChange s with cond := some uptoSmall }

/-- 'locketlaw09.EntryEncodes', WHERE WHAT IT READS IS OF BULK AT MOST 1048576: true; the input reads as it did. -/
def entryEncodesUptoRow : OpenClaim := { program := "ytaffpkogcpkmjaa", sum := "579e7aadca095e69d64d7415a16bf1c7ca4a69fd3e08f29ba34f35548535012e", func := "locket/locketlaw09.EntryEncodes", spec := "entryEncodes", unfollowed := true, recurses := true, apart := false, narrowed := true }
def EntryEncodesUptoSaid : Prop := entryEncodesUptoRow.holds Try.pinned (OpenSpec.upto entryEncodesSpec)

/-- 'locketlaw09.EntryDecodes', WHERE WHAT IT READS IS OF BULK AT MOST 1048576: true; the input reads as it did. -/
def entryDecodesUptoRow : OpenClaim := { program := "ytaffpkogcpkmjaa", sum := "579e7aadca095e69d64d7415a16bf1c7ca4a69fd3e08f29ba34f35548535012e", func := "locket/locketlaw09.EntryDecodes", spec := "entryDecodes", unfollowed := true, recurses := true, apart := false, narrowed := true }
def EntryDecodesUptoSaid : Prop := entryDecodesUptoRow.holds Try.pinned (OpenSpec.upto entryDecodesSpec)

/-- 'locketlaw09.EntrySame', WHERE WHAT IT READS IS OF BULK AT MOST 1048576: true; the input reads as it did. -/
def entrySameUptoRow : OpenClaim := { program := "ytaffpkogcpkmjaa", sum := "579e7aadca095e69d64d7415a16bf1c7ca4a69fd3e08f29ba34f35548535012e", func := "locket/locketlaw09.EntrySame", spec := "entrySame", unfollowed := true, recurses := true, apart := false, narrowed := true }
def EntrySameUptoSaid : Prop := entrySameUptoRow.holds Try.pinned (OpenSpec.upto entrySameSpec)

/-- 'locketlaw09.EntryCuts', WHERE WHAT IT READS IS OF BULK AT MOST 1048576: true; the input reads as it did. -/
def entryCutsUptoRow : OpenClaim := { program := "ytaffpkogcpkmjaa", sum := "579e7aadca095e69d64d7415a16bf1c7ca4a69fd3e08f29ba34f35548535012e", func := "locket/locketlaw09.EntryCuts", spec := "entryCuts", unfollowed := true, recurses := true, apart := false, narrowed := true }
def EntryCutsUptoSaid : Prop := entryCutsUptoRow.holds Try.pinned (OpenSpec.upto entryCutsSpec)

/-- 'locketlaw09.EntryKinds', WHERE WHAT IT READS IS OF BULK AT MOST 1048576: true; the input reads as it did. -/
def entryKindsUptoRow : OpenClaim := { program := "ytaffpkogcpkmjaa", sum := "579e7aadca095e69d64d7415a16bf1c7ca4a69fd3e08f29ba34f35548535012e", func := "locket/locketlaw09.EntryKinds", spec := "entryKinds", unfollowed := true, recurses := true, apart := false, narrowed := true }
def EntryKindsUptoSaid : Prop := entryKindsUptoRow.holds Try.pinned (OpenSpec.upto entryKindsSpec)

/-- 'locketlaw09.EntryOwn', WHERE WHAT IT READS IS OF BULK AT MOST 1048576: true; the input reads as it did. -/
def entryOwnUptoRow : OpenClaim := { program := "ytaffpkogcpkmjaa", sum := "579e7aadca095e69d64d7415a16bf1c7ca4a69fd3e08f29ba34f35548535012e", func := "locket/locketlaw09.EntryOwn", spec := "entryOwn", unfollowed := true, recurses := true, apart := false, narrowed := true }
def EntryOwnUptoSaid : Prop := entryOwnUptoRow.holds Try.pinned (OpenSpec.upto entryOwnSpec)

/-- 'locketlaw10.PolicyPlays', WHERE WHAT IT READS IS OF BULK AT MOST 1048576: true; the input reads as it did. -/
def policyPlaysUptoRow : OpenClaim := { program := "ytaffpkogcpkmjaa", sum := "579e7aadca095e69d64d7415a16bf1c7ca4a69fd3e08f29ba34f35548535012e", func := "locket/locketlaw10.PolicyPlays", spec := "policyPlays", inPlace := ["slices.overlaps[locket/policy.Member]"], unfollowed := true, recurses := true, apart := false, narrowed := true }
def PolicyPlaysUptoSaid : Prop := policyPlaysUptoRow.holds Try.pinned (OpenSpec.upto policyPlaysSpec)

/-- 'locketlaw10.PolicyForms', WHERE WHAT IT READS IS OF BULK AT MOST 1048576: true; the input reads as it did. -/
def policyFormsUptoRow : OpenClaim := { program := "ytaffpkogcpkmjaa", sum := "579e7aadca095e69d64d7415a16bf1c7ca4a69fd3e08f29ba34f35548535012e", func := "locket/locketlaw10.PolicyForms", spec := "policyForms", inPlace := ["slices.overlaps[locket/policy.Member]"], unfollowed := true, recurses := true, apart := false, narrowed := true }
def PolicyFormsUptoSaid : Prop := policyFormsUptoRow.holds Try.pinned (OpenSpec.upto policyFormsSpec)

/-- 'locketlaw10.PolicyFounder', WHERE WHAT IT READS IS OF BULK AT MOST 1048576: true; the input reads as it did. -/
def policyFounderUptoRow : OpenClaim := { program := "ytaffpkogcpkmjaa", sum := "579e7aadca095e69d64d7415a16bf1c7ca4a69fd3e08f29ba34f35548535012e", func := "locket/locketlaw10.PolicyFounder", spec := "policyFounder", inPlace := ["slices.overlaps[locket/policy.Member]"], unfollowed := true, recurses := true, apart := false, narrowed := true }
def PolicyFounderUptoSaid : Prop := policyFounderUptoRow.holds Try.pinned (OpenSpec.upto policyFounderSpec)

/-- 'locketlaw10.PolicyOwn', WHERE WHAT IT READS IS OF BULK AT MOST 1048576: true; the input reads as it did. -/
def policyOwnUptoRow : OpenClaim := { program := "ytaffpkogcpkmjaa", sum := "579e7aadca095e69d64d7415a16bf1c7ca4a69fd3e08f29ba34f35548535012e", func := "locket/locketlaw10.PolicyOwn", spec := "policyOwn", inPlace := ["slices.overlaps[locket/policy.Member]"], unfollowed := true, recurses := true, apart := false, narrowed := true }
def PolicyOwnUptoSaid : Prop := policyOwnUptoRow.holds Try.pinned (OpenSpec.upto policyOwnSpec)

/-- 'locketlaw10.PolicyGrants', WHERE WHAT IT READS IS OF BULK AT MOST 1048576: true; the input reads as it did. -/
def policyGrantsUptoRow : OpenClaim := { program := "ytaffpkogcpkmjaa", sum := "579e7aadca095e69d64d7415a16bf1c7ca4a69fd3e08f29ba34f35548535012e", func := "locket/locketlaw10.PolicyGrants", spec := "policyGrants", inPlace := ["slices.overlaps[locket/policy.Member]"], unfollowed := true, recurses := true, apart := false, narrowed := true }
def PolicyGrantsUptoSaid : Prop := policyGrantsUptoRow.holds Try.pinned (OpenSpec.upto policyGrantsSpec)

/-- 'locketlaw10.PolicyRotates', WHERE WHAT IT READS IS OF BULK AT MOST 1048576: true; the input reads as it did. -/
def policyRotatesUptoRow : OpenClaim := { program := "ytaffpkogcpkmjaa", sum := "579e7aadca095e69d64d7415a16bf1c7ca4a69fd3e08f29ba34f35548535012e", func := "locket/locketlaw10.PolicyRotates", spec := "policyRotates", inPlace := ["slices.overlaps[locket/policy.Member]"], unfollowed := true, recurses := true, apart := false, narrowed := true }
def PolicyRotatesUptoSaid : Prop := policyRotatesUptoRow.holds Try.pinned (OpenSpec.upto policyRotatesSpec)

end Rows
end Go.Proofs.Ytaffpkogcpkmjaa
