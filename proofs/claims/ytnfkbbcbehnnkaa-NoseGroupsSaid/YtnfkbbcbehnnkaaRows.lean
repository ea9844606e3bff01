/-
  No cell of these rows narrows 'for every input' (looked for: loops, veiled, ifaces, maps, wideKeys, modest, calm, conditions, laid).
  DERIVED. THE GIVEN ROWS OF THIS SEAT. 11 by the template 'for every input the law returns true; each argument reads behind the call as it read before'; 0 by the template 'total and deterministic' (their statements: YtnfkbbcbehnnkaaTotals.lean).
  GIVEN WITH THE SEED: the statements are not yours to turn. If you find one false, say at which input.
  Laid BY PROGRAM, IN A SANDBOX (cutbox-rows.mjs): the forced cells as the released guide's own fill.sh prints them over the translation 41cb84ada7d07af0… (all of the seat's roots in one cut). By AI agents, Wed Nov 11 2026. No macro, syntax, notation, axiom, sorry.
-/
import Derived.Test.YtnfkbbcbehnnkaaChecked
import GoSem.Claim
import GoSem.ClaimJoined
import GoSem.ClaimMapViews
import Derived.JoinedTies
import Derived.KernelRfl
namespace Go.Proofs.Ytnfkbbcbehnnkaa
/- THE CELL 'sum', in the pinned program and in every row, IS THE sha256 OF THE DUMP (.gsa) THAT YtnfkbbcbehnnkaaProg.lean LOADS. Nothing in Lean hashes anything: it is a label: what it is worth is what the hold of that sum in a sandbox is worth. -/
noncomputable def Try.pinned : Pinned := { name := "ytnfkbbcbehnnkaa", sum := "41cb84ada7d07af0e424b689267823a6fe44e07c6f6d70812e5bc306e7a24a77", checked := Try.checked }
namespace Rows
def none {H : Type} : Left H := { results := [], args := [] }

/-- 'wormtublaw08.NoseShift': WHATEVER THE INPUT: true; the input reads as it did. -/
def noseShiftSpec : ChangeSpec := { name := "noseShift", fn := fun _ => fun
  | [d1, d2, d3, d4, d5] => { results := [.lit (.bool true)], args := [d1, d2, d3, d4, d5] }
  | _ => none }
def noseShiftRow : OpenClaim := { program := "ytnfkbbcbehnnkaa", sum := "41cb84ada7d07af0e424b689267823a6fe44e07c6f6d70812e5bc306e7a24a77", func := "wormtub/wormtublaw08.NoseShift", spec := "noseShift", unfollowed := true, recurses := true, plainKeys := false, apart := false }
def NoseShiftSaid : Prop := noseShiftRow.holds Try.pinned (OpenSpec.ofChange noseShiftSpec)

/-- ITS FALSE NEIGHBOUR: 'it returns false'. Refute it at one input. -/
def noseShiftWrong : ChangeSpec := { name := "noseShift", fn := fun _ => fun
  | [d1, d2, d3, d4, d5] => { results := [.lit (.bool false)], args := [d1, d2, d3, d4, d5] }
  | _ => none }
def NoseShiftWrongFalsely : Prop := noseShiftRow.holds Try.pinned (OpenSpec.ofChange noseShiftWrong)

/-- 'wormtublaw08.NoseBiases': WHATEVER THE INPUT: true; the input reads as it did. -/
def noseBiasesSpec : ChangeSpec := { name := "noseBiases", fn := fun _ => fun
  | [d1, d2, d3, d4, d5] => { results := [.lit (.bool true)], args := [d1, d2, d3, d4, d5] }
  | _ => none }
def noseBiasesRow : OpenClaim := { program := "ytnfkbbcbehnnkaa", sum := "41cb84ada7d07af0e424b689267823a6fe44e07c6f6d70812e5bc306e7a24a77", func := "wormtub/wormtublaw08.NoseBiases", spec := "noseBiases", unfollowed := true, recurses := true, plainKeys := false, apart := false }
def NoseBiasesSaid : Prop := noseBiasesRow.holds Try.pinned (OpenSpec.ofChange noseBiasesSpec)

/-- ITS FALSE NEIGHBOUR: 'it returns false'. Refute it at one input. -/
def noseBiasesWrong : ChangeSpec := { name := "noseBiases", fn := fun _ => fun
  | [d1, d2, d3, d4, d5] => { results := [.lit (.bool false)], args := [d1, d2, d3, d4, d5] }
  | _ => none }
def NoseBiasesWrongFalsely : Prop := noseBiasesRow.holds Try.pinned (OpenSpec.ofChange noseBiasesWrong)

/-- 'wormtublaw08.NoseTight': WHATEVER THE INPUT: true; the input reads as it did. -/
def noseTightSpec : ChangeSpec := { name := "noseTight", fn := fun _ => fun
  | [d1, d2, d3] => { results := [.lit (.bool true)], args := [d1, d2, d3] }
  | _ => none }
def noseTightRow : OpenClaim := { program := "ytnfkbbcbehnnkaa", sum := "41cb84ada7d07af0e424b689267823a6fe44e07c6f6d70812e5bc306e7a24a77", func := "wormtub/wormtublaw08.NoseTight", spec := "noseTight", unfollowed := true, recurses := true, plainKeys := false, apart := false }
def NoseTightSaid : Prop := noseTightRow.holds Try.pinned (OpenSpec.ofChange noseTightSpec)

/-- ITS FALSE NEIGHBOUR: 'it returns false'. Refute it at one input. -/
def noseTightWrong : ChangeSpec := { name := "noseTight", fn := fun _ => fun
  | [d1, d2, d3] => { results := [.lit (.bool false)], args := [d1, d2, d3] }
  | _ => none }
def NoseTightWrongFalsely : Prop := noseTightRow.holds Try.pinned (OpenSpec.ofChange noseTightWrong)

/-- 'wormtublaw08.NoseMore': WHATEVER THE INPUT: true; the input reads as it did. -/
def noseMoreSpec : ChangeSpec := { name := "noseMore", fn := fun _ => fun
  | [d1, d2, d3, d4, d5, d6] => { results := [.lit (.bool true)], args := [d1, d2, d3, d4, d5, d6] }
  | _ => none }
def noseMoreRow : OpenClaim := { program := "ytnfkbbcbehnnkaa", sum := "41cb84ada7d07af0e424b689267823a6fe44e07c6f6d70812e5bc306e7a24a77", func := "wormtub/wormtublaw08.NoseMore", spec := "noseMore", unfollowed := true, recurses := true, plainKeys := false, apart := false }
def NoseMoreSaid : Prop := noseMoreRow.holds Try.pinned (OpenSpec.ofChange noseMoreSpec)

/-- ITS FALSE NEIGHBOUR: 'it returns false'. Refute it at one input. -/
def noseMoreWrong : ChangeSpec := { name := "noseMore", fn := fun _ => fun
  | [d1, d2, d3, d4, d5, d6] => { results := [.lit (.bool false)], args := [d1, d2, d3, d4, d5, d6] }
  | _ => none }
def NoseMoreWrongFalsely : Prop := noseMoreRow.holds Try.pinned (OpenSpec.ofChange noseMoreWrong)

/-- 'wormtublaw08.NoseValues': WHATEVER THE INPUT: true; the input reads as it did. -/
def noseValuesSpec : ChangeSpec := { name := "noseValues", fn := fun _ => fun
  | [d1, d2, d3, d4] => { results := [.lit (.bool true)], args := [d1, d2, d3, d4] }
  | _ => none }
def noseValuesRow : OpenClaim := { program := "ytnfkbbcbehnnkaa", sum := "41cb84ada7d07af0e424b689267823a6fe44e07c6f6d70812e5bc306e7a24a77", func := "wormtub/wormtublaw08.NoseValues", spec := "noseValues", unfollowed := true, recurses := true, plainKeys := false, apart := false }
def NoseValuesSaid : Prop := noseValuesRow.holds Try.pinned (OpenSpec.ofChange noseValuesSpec)

/-- ITS FALSE NEIGHBOUR: 'it returns false'. Refute it at one input. -/
def noseValuesWrong : ChangeSpec := { name := "noseValues", fn := fun _ => fun
  | [d1, d2, d3, d4] => { results := [.lit (.bool false)], args := [d1, d2, d3, d4] }
  | _ => none }
def NoseValuesWrongFalsely : Prop := noseValuesRow.holds Try.pinned (OpenSpec.ofChange noseValuesWrong)

/-- 'wormtublaw08.NoseApart': WHATEVER THE INPUT: true; the input reads as it did. -/
def noseApartSpec : ChangeSpec := { name := "noseApart", fn := fun _ => fun
  | [d] => { results := [.lit (.bool true)], args := [d] }
  | _ => none }
def noseApartRow : OpenClaim := { program := "ytnfkbbcbehnnkaa", sum := "41cb84ada7d07af0e424b689267823a6fe44e07c6f6d70812e5bc306e7a24a77", func := "wormtub/wormtublaw08.NoseApart", spec := "noseApart", unfollowed := true, recurses := true, plainKeys := false, apart := false }
def NoseApartSaid : Prop := noseApartRow.holds Try.pinned (OpenSpec.ofChange noseApartSpec)

/-- ITS FALSE NEIGHBOUR: 'it returns false'. Refute it at one input. -/
def noseApartWrong : ChangeSpec := { name := "noseApart", fn := fun _ => fun
  | [d] => { results := [.lit (.bool false)], args := [d] }
  | _ => none }
def NoseApartWrongFalsely : Prop := noseApartRow.holds Try.pinned (OpenSpec.ofChange noseApartWrong)

/-- 'wormtublaw08.NoseDoubt': WHATEVER THE INPUT: true; the input reads as it did. -/
def noseDoubtSpec : ChangeSpec := { name := "noseDoubt", fn := fun _ => fun
  | [d] => { results := [.lit (.bool true)], args := [d] }
  | _ => none }
def noseDoubtRow : OpenClaim := { program := "ytnfkbbcbehnnkaa", sum := "41cb84ada7d07af0e424b689267823a6fe44e07c6f6d70812e5bc306e7a24a77", func := "wormtub/wormtublaw08.NoseDoubt", spec := "noseDoubt", unfollowed := true, recurses := true, plainKeys := false, apart := false }
def NoseDoubtSaid : Prop := noseDoubtRow.holds Try.pinned (OpenSpec.ofChange noseDoubtSpec)

/-- ITS FALSE NEIGHBOUR: 'it returns false'. Refute it at one input. -/
def noseDoubtWrong : ChangeSpec := { name := "noseDoubt", fn := fun _ => fun
  | [d] => { results := [.lit (.bool false)], args := [d] }
  | _ => none }
def NoseDoubtWrongFalsely : Prop := noseDoubtRow.holds Try.pinned (OpenSpec.ofChange noseDoubtWrong)

/-- 'wormtublaw08.NoseTrue': WHATEVER THE INPUT: true; the input reads as it did. -/
def noseTrueSpec : ChangeSpec := { name := "noseTrue", fn := fun _ => fun
  | [d1, d2, d3, d4, d5, d6] => { results := [.lit (.bool true)], args := [d1, d2, d3, d4, d5, d6] }
  | _ => none }
def noseTrueRow : OpenClaim := { program := "ytnfkbbcbehnnkaa", sum := "41cb84ada7d07af0e424b689267823a6fe44e07c6f6d70812e5bc306e7a24a77", func := "wormtub/wormtublaw08.NoseTrue", spec := "noseTrue", unfollowed := true, recurses := true, plainKeys := false, apart := false }
def NoseTrueSaid : Prop := noseTrueRow.holds Try.pinned (OpenSpec.ofChange noseTrueSpec)

/-- ITS FALSE NEIGHBOUR: 'it returns false'. Refute it at one input. -/
def noseTrueWrong : ChangeSpec := { name := "noseTrue", fn := fun _ => fun
  | [d1, d2, d3, d4, d5, d6] => { results := [.lit (.bool false)], args := [d1, d2, d3, d4, d5, d6] }
  | _ => none }
def NoseTrueWrongFalsely : Prop := noseTrueRow.holds Try.pinned (OpenSpec.ofChange noseTrueWrong)

/-- 'wormtublaw08.NoseGroups': WHATEVER THE INPUT: true; the input reads as it did. -/
def noseGroupsSpec : ChangeSpec := { name := "noseGroups", fn := fun _ => fun
  | [d] => { results := [.lit (.bool true)], args := [d] }
  | _ => none }
def noseGroupsRow : OpenClaim := { program := "ytnfkbbcbehnnkaa", sum := "41cb84ada7d07af0e424b689267823a6fe44e07c6f6d70812e5bc306e7a24a77", func := "wormtub/wormtublaw08.NoseGroups", spec := "noseGroups", unfollowed := true, recurses := true, plainKeys := false, apart := false }
def NoseGroupsSaid : Prop := noseGroupsRow.holds Try.pinned (OpenSpec.ofChange noseGroupsSpec)

/-- ITS FALSE NEIGHBOUR: 'it returns false'. Refute it at one input. -/
def noseGroupsWrong : ChangeSpec := { name := "noseGroups", fn := fun _ => fun
  | [d] => { results := [.lit (.bool false)], args := [d] }
  | _ => none }
def NoseGroupsWrongFalsely : Prop := noseGroupsRow.holds Try.pinned (OpenSpec.ofChange noseGroupsWrong)

/-- 'wormtublaw08.NoseOwns': WHATEVER THE INPUT: true; the input reads as it did. -/
def noseOwnsSpec : ChangeSpec := { name := "noseOwns", fn := fun _ => fun
  | [d] => { results := [.lit (.bool true)], args := [d] }
  | _ => none }
def noseOwnsRow : OpenClaim := { program := "ytnfkbbcbehnnkaa", sum := "41cb84ada7d07af0e424b689267823a6fe44e07c6f6d70812e5bc306e7a24a77", func := "wormtub/wormtublaw08.NoseOwns", spec := "noseOwns", unfollowed := true, recurses := true, plainKeys := false, apart := false }
def NoseOwnsSaid : Prop := noseOwnsRow.holds Try.pinned (OpenSpec.ofChange noseOwnsSpec)

/-- ITS FALSE NEIGHBOUR: 'it returns false'. Refute it at one input. -/
def noseOwnsWrong : ChangeSpec := { name := "noseOwns", fn := fun _ => fun
  | [d] => { results := [.lit (.bool false)], args := [d] }
  | _ => none }
def NoseOwnsWrongFalsely : Prop := noseOwnsRow.holds Try.pinned (OpenSpec.ofChange noseOwnsWrong)

/-- 'wormtublaw08.NoseNames': WHATEVER THE INPUT: true; the input reads as it did. -/
def noseNamesSpec : ChangeSpec := { name := "noseNames", fn := fun _ => fun
  | [] => { results := [.lit (.bool true)], args := [] }
  | _ => none }
def noseNamesRow : OpenClaim := { program := "ytnfkbbcbehnnkaa", sum := "41cb84ada7d07af0e424b689267823a6fe44e07c6f6d70812e5bc306e7a24a77", func := "wormtub/wormtublaw08.NoseNames", spec := "noseNames", unfollowed := true, recurses := true, plainKeys := false, apart := false }
def NoseNamesSaid : Prop := noseNamesRow.holds Try.pinned (OpenSpec.ofChange noseNamesSpec)

/-- ITS FALSE NEIGHBOUR: 'it returns false'. Refute it at one input. -/
def noseNamesWrong : ChangeSpec := { name := "noseNames", fn := fun _ => fun
  | [] => { results := [.lit (.bool false)], args := [] }
  | _ => none }
def NoseNamesWrongFalsely : Prop := noseNamesRow.holds Try.pinned (OpenSpec.ofChange noseNamesWrong)

/- THE SECOND FORM. 'bulk': how many values and letters a reading holds, each counted each time it is reached (what is shared counts as often as it is met; a slice's spare places count too). A statement '..UptoSaid' is the law's where the arguments, and the package variables that the reading takes, are together of bulk at most 1048576: NARROWER than '..Said'. Prove '..Said' where nothing that the law and all that it calls make is longer than what came in: it says more and counts as full. Else prove '..UptoSaid'. A law counts once. -/
mutual
def uptoBulk {H : Type} : DataW H → Nat
  | .lit (.string bytes) => bytes.length + 1
  | .lit _ => 1
  | .nil => 1
  | .ptr d => uptoBulk d + 1
  | .slice elems spare => uptoBulkAll elems + uptoBulkAll spare + 1
  | .agg parts => uptoBulkAll parts + 1
  | .iface _ d => uptoBulk d + 1
  | .map entries => uptoBulkEntries entries + 1
  | .held _ => 1
def uptoBulkAll {H : Type} : List (DataW H) → Nat
  | [] => 0
  | d :: r => uptoBulk d + uptoBulkAll r
def uptoBulkEntries {H : Type} : List (Lit × DataW H) → Nat
  | [] => 0
  | x :: r => uptoBulkEntry x + uptoBulkEntries r
def uptoBulkEntry {H : Type} : Lit × DataW H → Nat
  | (.string bytes, d) => bytes.length + uptoBulk d + 1
  | (_, d) => uptoBulk d + 1
 end
def uptoSmall : (H : Type) → List (DataW H) → Bool := fun _ ds => decide (uptoBulkAll ds ≤ 1048576)
def OpenSpec.upto (s : _root_.Go.ChangeSpec) : _root_.Go.OpenSpec := { _root_.Go.OpenSpec.ofChange s with cond := some uptoSmall }

/-- 'wormtublaw08.NoseShift', WHERE WHAT IT READS IS OF BULK AT MOST 1048576: true; the input reads as it did. -/
def noseShiftUptoRow : OpenClaim := { program := "ytnfkbbcbehnnkaa", sum := "41cb84ada7d07af0e424b689267823a6fe44e07c6f6d70812e5bc306e7a24a77", func := "wormtub/wormtublaw08.NoseShift", spec := "noseShift", unfollowed := true, recurses := true, plainKeys := false, apart := false, narrowed := true }
def NoseShiftUptoSaid : Prop := noseShiftUptoRow.holds Try.pinned (OpenSpec.upto noseShiftSpec)

/-- 'wormtublaw08.NoseBiases', WHERE WHAT IT READS IS OF BULK AT MOST 1048576: true; the input reads as it did. -/
def noseBiasesUptoRow : OpenClaim := { program := "ytnfkbbcbehnnkaa", sum := "41cb84ada7d07af0e424b689267823a6fe44e07c6f6d70812e5bc306e7a24a77", func := "wormtub/wormtublaw08.NoseBiases", spec := "noseBiases", unfollowed := true, recurses := true, plainKeys := false, apart := false, narrowed := true }
def NoseBiasesUptoSaid : Prop := noseBiasesUptoRow.holds Try.pinned (OpenSpec.upto noseBiasesSpec)

/-- 'wormtublaw08.NoseTight', WHERE WHAT IT READS IS OF BULK AT MOST 1048576: true; the input reads as it did. -/
def noseTightUptoRow : OpenClaim := { program := "ytnfkbbcbehnnkaa", sum := "41cb84ada7d07af0e424b689267823a6fe44e07c6f6d70812e5bc306e7a24a77", func := "wormtub/wormtublaw08.NoseTight", spec := "noseTight", unfollowed := true, recurses := true, plainKeys := false, apart := false, narrowed := true }
def NoseTightUptoSaid : Prop := noseTightUptoRow.holds Try.pinned (OpenSpec.upto noseTightSpec)

/-- 'wormtublaw08.NoseMore', WHERE WHAT IT READS IS OF BULK AT MOST 1048576: true; the input reads as it did. -/
def noseMoreUptoRow : OpenClaim := { program := "ytnfkbbcbehnnkaa", sum := "41cb84ada7d07af0e424b689267823a6fe44e07c6f6d70812e5bc306e7a24a77", func := "wormtub/wormtublaw08.NoseMore", spec := "noseMore", unfollowed := true, recurses := true, plainKeys := false, apart := false, narrowed := true }
def NoseMoreUptoSaid : Prop := noseMoreUptoRow.holds Try.pinned (OpenSpec.upto noseMoreSpec)

/-- 'wormtublaw08.NoseValues', WHERE WHAT IT READS IS OF BULK AT MOST 1048576: true; the input reads as it did. -/
def noseValuesUptoRow : OpenClaim := { program := "ytnfkbbcbehnnkaa", sum := "41cb84ada7d07af0e424b689267823a6fe44e07c6f6d70812e5bc306e7a24a77", func := "wormtub/wormtublaw08.NoseValues", spec := "noseValues", unfollowed := true, recurses := true, plainKeys := false, apart := false, narrowed := true }
def NoseValuesUptoSaid : Prop := noseValuesUptoRow.holds Try.pinned (OpenSpec.upto noseValuesSpec)

/-- 'wormtublaw08.NoseApart', WHERE WHAT IT READS IS OF BULK AT MOST 1048576: true; the input reads as it did. -/
def noseApartUptoRow : OpenClaim := { program := "ytnfkbbcbehnnkaa", sum := "41cb84ada7d07af0e424b689267823a6fe44e07c6f6d70812e5bc306e7a24a77", func := "wormtub/wormtublaw08.NoseApart", spec := "noseApart", unfollowed := true, recurses := true, plainKeys := false, apart := false, narrowed := true }
def NoseApartUptoSaid : Prop := noseApartUptoRow.holds Try.pinned (OpenSpec.upto noseApartSpec)

/-- 'wormtublaw08.NoseDoubt', WHERE WHAT IT READS IS OF BULK AT MOST 1048576: true; the input reads as it did. -/
def noseDoubtUptoRow : OpenClaim := { program := "ytnfkbbcbehnnkaa", sum := "41cb84ada7d07af0e424b689267823a6fe44e07c6f6d70812e5bc306e7a24a77", func := "wormtub/wormtublaw08.NoseDoubt", spec := "noseDoubt", unfollowed := true, recurses := true, plainKeys := false, apart := false, narrowed := true }
def NoseDoubtUptoSaid : Prop := noseDoubtUptoRow.holds Try.pinned (OpenSpec.upto noseDoubtSpec)

/-- 'wormtublaw08.NoseTrue', WHERE WHAT IT READS IS OF BULK AT MOST 1048576: true; the input reads as it did. -/
def noseTrueUptoRow : OpenClaim := { program := "ytnfkbbcbehnnkaa", sum := "41cb84ada7d07af0e424b689267823a6fe44e07c6f6d70812e5bc306e7a24a77", func := "wormtub/wormtublaw08.NoseTrue", spec := "noseTrue", unfollowed := true, recurses := true, plainKeys := false, apart := false, narrowed := true }
def NoseTrueUptoSaid : Prop := noseTrueUptoRow.holds Try.pinned (OpenSpec.upto noseTrueSpec)

/-- 'wormtublaw08.NoseGroups', WHERE WHAT IT READS IS OF BULK AT MOST 1048576: true; the input reads as it did. -/
def noseGroupsUptoRow : OpenClaim := { program := "ytnfkbbcbehnnkaa", sum := "41cb84ada7d07af0e424b689267823a6fe44e07c6f6d70812e5bc306e7a24a77", func := "wormtub/wormtublaw08.NoseGroups", spec := "noseGroups", unfollowed := true, recurses := true, plainKeys := false, apart := false, narrowed := true }
def NoseGroupsUptoSaid : Prop := noseGroupsUptoRow.holds Try.pinned (OpenSpec.upto noseGroupsSpec)

/-- 'wormtublaw08.NoseOwns', WHERE WHAT IT READS IS OF BULK AT MOST 1048576: true; the input reads as it did. -/
def noseOwnsUptoRow : OpenClaim := { program := "ytnfkbbcbehnnkaa", sum := "41cb84ada7d07af0e424b689267823a6fe44e07c6f6d70812e5bc306e7a24a77", func := "wormtub/wormtublaw08.NoseOwns", spec := "noseOwns", unfollowed := true, recurses := true, plainKeys := false, apart := false, narrowed := true }
def NoseOwnsUptoSaid : Prop := noseOwnsUptoRow.holds Try.pinned (OpenSpec.upto noseOwnsSpec)

/-- 'wormtublaw08.NoseNames', WHERE WHAT IT READS IS OF BULK AT MOST 1048576: true; the input reads as it did. -/
def noseNamesUptoRow : OpenClaim := { program := "ytnfkbbcbehnnkaa", sum := "41cb84ada7d07af0e424b689267823a6fe44e07c6f6d70812e5bc306e7a24a77", func := "wormtub/wormtublaw08.NoseNames", spec := "noseNames", unfollowed := true, recurses := true, plainKeys := false, apart := false, narrowed := true }
def NoseNamesUptoSaid : Prop := noseNamesUptoRow.holds Try.pinned (OpenSpec.upto noseNamesSpec)

end Rows
end Go.Proofs.Ytnfkbbcbehnnkaa
