/-
  No cell of these rows narrows 'for every input' (looked for: loops, veiled, ifaces, maps, wideKeys, modest, calm, conditions, laid).
  DERIVED. THE GIVEN ROWS OF THIS SEAT. 11 by the template 'for every input the law returns true; each argument reads behind the call as it read before'; 0 by the template 'total and deterministic' (their statements: YtlboglkgbhjpeaaTotals.lean).
  GIVEN WITH THE SEED: the statements are not yours to turn. If you find one false, say at which input.
  Laid BY PROGRAM, IN A SANDBOX (cutbox-rows.mjs): the forced cells as the released guide's own fill.sh prints them over the translation b9c5c4a15378364e… (all of the seat's roots in one cut). By AI agents, Wed Nov 11 2026. No macro, syntax, notation, axiom, sorry.
-/
import Derived.Test.YtlboglkgbhjpeaaChecked
import GoSem.Claim
import GoSem.ClaimJoined
import GoSem.ClaimMapViews
import Derived.JoinedTies
import Derived.KernelRfl
namespace Go.Proofs.Ytlboglkgbhjpeaa
/- THE CELL 'sum', in the pinned program and in every row, IS THE sha256 OF THE DUMP (.gsa) THAT YtlboglkgbhjpeaaProg.lean LOADS. Nothing in Lean hashes anything: it is a label: what it is worth is what the hold of that sum in a sandbox is worth. -/
noncomputable def Try.pinned : Pinned := { name := "ytlboglkgbhjpeaa", sum := "b9c5c4a15378364e2cbe4487754df49c59daf1b3a308f7250e1fcf1bd24e5365", checked := Try.checked }
namespace Rows
def none {H : Type} : Left H := { results := [], args := [] }

/-- 'wormtublaw09.BlendOwns': WHATEVER THE INPUT: true; the input reads as it did. -/
def blendOwnsSpec : ChangeSpec := { name := "blendOwns", fn := fun _ => fun
  | [d1, d2, d3] => { results := [.lit (.bool true)], args := [d1, d2, d3] }
  | _ => none }
def blendOwnsRow : OpenClaim := { program := "ytlboglkgbhjpeaa", sum := "b9c5c4a15378364e2cbe4487754df49c59daf1b3a308f7250e1fcf1bd24e5365", func := "wormtub/wormtublaw09.BlendOwns", spec := "blendOwns", unfollowed := true, recurses := true, plainKeys := false, apart := false }
def BlendOwnsSaid : Prop := blendOwnsRow.holds Try.pinned (OpenSpec.ofChange blendOwnsSpec)

/-- ITS FALSE NEIGHBOUR: 'it returns false'. Refute it at one input. -/
def blendOwnsWrong : ChangeSpec := { name := "blendOwns", fn := fun _ => fun
  | [d1, d2, d3] => { results := [.lit (.bool false)], args := [d1, d2, d3] }
  | _ => none }
def BlendOwnsWrongFalsely : Prop := blendOwnsRow.holds Try.pinned (OpenSpec.ofChange blendOwnsWrong)

/-- 'wormtublaw09.BlendPlans': WHATEVER THE INPUT: true; the input reads as it did. -/
def blendPlansSpec : ChangeSpec := { name := "blendPlans", fn := fun _ => fun
  | [d1, d2, d3, d4] => { results := [.lit (.bool true)], args := [d1, d2, d3, d4] }
  | _ => none }
def blendPlansRow : OpenClaim := { program := "ytlboglkgbhjpeaa", sum := "b9c5c4a15378364e2cbe4487754df49c59daf1b3a308f7250e1fcf1bd24e5365", func := "wormtub/wormtublaw09.BlendPlans", spec := "blendPlans", unfollowed := true, recurses := true, plainKeys := false, apart := false }
def BlendPlansSaid : Prop := blendPlansRow.holds Try.pinned (OpenSpec.ofChange blendPlansSpec)

/-- ITS FALSE NEIGHBOUR: 'it returns false'. Refute it at one input. -/
def blendPlansWrong : ChangeSpec := { name := "blendPlans", fn := fun _ => fun
  | [d1, d2, d3, d4] => { results := [.lit (.bool false)], args := [d1, d2, d3, d4] }
  | _ => none }
def BlendPlansWrongFalsely : Prop := blendPlansRow.holds Try.pinned (OpenSpec.ofChange blendPlansWrong)

/-- 'wormtublaw09.BlendYears': WHATEVER THE INPUT: true; the input reads as it did. -/
def blendYearsSpec : ChangeSpec := { name := "blendYears", fn := fun _ => fun
  | [d1, d2, d3, d4] => { results := [.lit (.bool true)], args := [d1, d2, d3, d4] }
  | _ => none }
def blendYearsRow : OpenClaim := { program := "ytlboglkgbhjpeaa", sum := "b9c5c4a15378364e2cbe4487754df49c59daf1b3a308f7250e1fcf1bd24e5365", func := "wormtub/wormtublaw09.BlendYears", spec := "blendYears", unfollowed := true, recurses := true, plainKeys := false, apart := false }
def BlendYearsSaid : Prop := blendYearsRow.holds Try.pinned (OpenSpec.ofChange blendYearsSpec)

/-- ITS FALSE NEIGHBOUR: 'it returns false'. Refute it at one input. -/
def blendYearsWrong : ChangeSpec := { name := "blendYears", fn := fun _ => fun
  | [d1, d2, d3, d4] => { results := [.lit (.bool false)], args := [d1, d2, d3, d4] }
  | _ => none }
def BlendYearsWrongFalsely : Prop := blendYearsRow.holds Try.pinned (OpenSpec.ofChange blendYearsWrong)

/-- 'wormtublaw09.BlendMade': WHATEVER THE INPUT: true; the input reads as it did. -/
def blendMadeSpec : ChangeSpec := { name := "blendMade", fn := fun _ => fun
  | [d1, d2, d3, d4] => { results := [.lit (.bool true)], args := [d1, d2, d3, d4] }
  | _ => none }
def blendMadeRow : OpenClaim := { program := "ytlboglkgbhjpeaa", sum := "b9c5c4a15378364e2cbe4487754df49c59daf1b3a308f7250e1fcf1bd24e5365", func := "wormtub/wormtublaw09.BlendMade", spec := "blendMade", unfollowed := true, recurses := true, plainKeys := false, apart := false }
def BlendMadeSaid : Prop := blendMadeRow.holds Try.pinned (OpenSpec.ofChange blendMadeSpec)

/-- ITS FALSE NEIGHBOUR: 'it returns false'. Refute it at one input. -/
def blendMadeWrong : ChangeSpec := { name := "blendMade", fn := fun _ => fun
  | [d1, d2, d3, d4] => { results := [.lit (.bool false)], args := [d1, d2, d3, d4] }
  | _ => none }
def BlendMadeWrongFalsely : Prop := blendMadeRow.holds Try.pinned (OpenSpec.ofChange blendMadeWrong)

/-- 'wormtublaw09.BlendTrue': WHATEVER THE INPUT: true; the input reads as it did. -/
def blendTrueSpec : ChangeSpec := { name := "blendTrue", fn := fun _ => fun
  | [d1, d2, d3, d4, d5] => { results := [.lit (.bool true)], args := [d1, d2, d3, d4, d5] }
  | _ => none }
def blendTrueRow : OpenClaim := { program := "ytlboglkgbhjpeaa", sum := "b9c5c4a15378364e2cbe4487754df49c59daf1b3a308f7250e1fcf1bd24e5365", func := "wormtub/wormtublaw09.BlendTrue", spec := "blendTrue", unfollowed := true, recurses := true, plainKeys := false, apart := false }
def BlendTrueSaid : Prop := blendTrueRow.holds Try.pinned (OpenSpec.ofChange blendTrueSpec)

/-- ITS FALSE NEIGHBOUR: 'it returns false'. Refute it at one input. -/
def blendTrueWrong : ChangeSpec := { name := "blendTrue", fn := fun _ => fun
  | [d1, d2, d3, d4, d5] => { results := [.lit (.bool false)], args := [d1, d2, d3, d4, d5] }
  | _ => none }
def BlendTrueWrongFalsely : Prop := blendTrueRow.holds Try.pinned (OpenSpec.ofChange blendTrueWrong)

/-- 'wormtublaw09.BlendLeast': WHATEVER THE INPUT: true; the input reads as it did. -/
def blendLeastSpec : ChangeSpec := { name := "blendLeast", fn := fun _ => fun
  | [d1, d2, d3, d4, d5, d6, d7] => { results := [.lit (.bool true)], args := [d1, d2, d3, d4, d5, d6, d7] }
  | _ => none }
def blendLeastRow : OpenClaim := { program := "ytlboglkgbhjpeaa", sum := "b9c5c4a15378364e2cbe4487754df49c59daf1b3a308f7250e1fcf1bd24e5365", func := "wormtub/wormtublaw09.BlendLeast", spec := "blendLeast", unfollowed := true, recurses := true, plainKeys := false, apart := false }
def BlendLeastSaid : Prop := blendLeastRow.holds Try.pinned (OpenSpec.ofChange blendLeastSpec)

/-- ITS FALSE NEIGHBOUR: 'it returns false'. Refute it at one input. -/
def blendLeastWrong : ChangeSpec := { name := "blendLeast", fn := fun _ => fun
  | [d1, d2, d3, d4, d5, d6, d7] => { results := [.lit (.bool false)], args := [d1, d2, d3, d4, d5, d6, d7] }
  | _ => none }
def BlendLeastWrongFalsely : Prop := blendLeastRow.holds Try.pinned (OpenSpec.ofChange blendLeastWrong)

/-- 'wormtublaw09.BlendPaths': WHATEVER THE INPUT: true; the input reads as it did. -/
def blendPathsSpec : ChangeSpec := { name := "blendPaths", fn := fun _ => fun
  | [d1, d2, d3, d4] => { results := [.lit (.bool true)], args := [d1, d2, d3, d4] }
  | _ => none }
def blendPathsRow : OpenClaim := { program := "ytlboglkgbhjpeaa", sum := "b9c5c4a15378364e2cbe4487754df49c59daf1b3a308f7250e1fcf1bd24e5365", func := "wormtub/wormtublaw09.BlendPaths", spec := "blendPaths", unfollowed := true, recurses := true, plainKeys := false, apart := false }
def BlendPathsSaid : Prop := blendPathsRow.holds Try.pinned (OpenSpec.ofChange blendPathsSpec)

/-- ITS FALSE NEIGHBOUR: 'it returns false'. Refute it at one input. -/
def blendPathsWrong : ChangeSpec := { name := "blendPaths", fn := fun _ => fun
  | [d1, d2, d3, d4] => { results := [.lit (.bool false)], args := [d1, d2, d3, d4] }
  | _ => none }
def BlendPathsWrongFalsely : Prop := blendPathsRow.holds Try.pinned (OpenSpec.ofChange blendPathsWrong)

/-- 'wormtublaw09.BlendFirst': WHATEVER THE INPUT: true; the input reads as it did. -/
def blendFirstSpec : ChangeSpec := { name := "blendFirst", fn := fun _ => fun
  | [d1, d2, d3, d4] => { results := [.lit (.bool true)], args := [d1, d2, d3, d4] }
  | _ => none }
def blendFirstRow : OpenClaim := { program := "ytlboglkgbhjpeaa", sum := "b9c5c4a15378364e2cbe4487754df49c59daf1b3a308f7250e1fcf1bd24e5365", func := "wormtub/wormtublaw09.BlendFirst", spec := "blendFirst", unfollowed := true, recurses := true, plainKeys := false, apart := false }
def BlendFirstSaid : Prop := blendFirstRow.holds Try.pinned (OpenSpec.ofChange blendFirstSpec)

/-- ITS FALSE NEIGHBOUR: 'it returns false'. Refute it at one input. -/
def blendFirstWrong : ChangeSpec := { name := "blendFirst", fn := fun _ => fun
  | [d1, d2, d3, d4] => { results := [.lit (.bool false)], args := [d1, d2, d3, d4] }
  | _ => none }
def BlendFirstWrongFalsely : Prop := blendFirstRow.holds Try.pinned (OpenSpec.ofChange blendFirstWrong)

/-- 'wormtublaw09.BlendCheapest': WHATEVER THE INPUT: true; the input reads as it did. -/
def blendCheapestSpec : ChangeSpec := { name := "blendCheapest", fn := fun _ => fun
  | [d1, d2, d3, d4, d5, d6] => { results := [.lit (.bool true)], args := [d1, d2, d3, d4, d5, d6] }
  | _ => none }
def blendCheapestRow : OpenClaim := { program := "ytlboglkgbhjpeaa", sum := "b9c5c4a15378364e2cbe4487754df49c59daf1b3a308f7250e1fcf1bd24e5365", func := "wormtub/wormtublaw09.BlendCheapest", spec := "blendCheapest", unfollowed := true, recurses := true, plainKeys := false, apart := false }
def BlendCheapestSaid : Prop := blendCheapestRow.holds Try.pinned (OpenSpec.ofChange blendCheapestSpec)

/-- ITS FALSE NEIGHBOUR: 'it returns false'. Refute it at one input. -/
def blendCheapestWrong : ChangeSpec := { name := "blendCheapest", fn := fun _ => fun
  | [d1, d2, d3, d4, d5, d6] => { results := [.lit (.bool false)], args := [d1, d2, d3, d4, d5, d6] }
  | _ => none }
def BlendCheapestWrongFalsely : Prop := blendCheapestRow.holds Try.pinned (OpenSpec.ofChange blendCheapestWrong)

/-- 'wormtublaw09.BlendProof': WHATEVER THE INPUT: true; the input reads as it did. -/
def blendProofSpec : ChangeSpec := { name := "blendProof", fn := fun _ => fun
  | [d1, d2, d3, d4, d5, d6, d7] => { results := [.lit (.bool true)], args := [d1, d2, d3, d4, d5, d6, d7] }
  | _ => none }
def blendProofRow : OpenClaim := { program := "ytlboglkgbhjpeaa", sum := "b9c5c4a15378364e2cbe4487754df49c59daf1b3a308f7250e1fcf1bd24e5365", func := "wormtub/wormtublaw09.BlendProof", spec := "blendProof", unfollowed := true, recurses := true, plainKeys := false, apart := false }
def BlendProofSaid : Prop := blendProofRow.holds Try.pinned (OpenSpec.ofChange blendProofSpec)

/-- ITS FALSE NEIGHBOUR: 'it returns false'. Refute it at one input. -/
def blendProofWrong : ChangeSpec := { name := "blendProof", fn := fun _ => fun
  | [d1, d2, d3, d4, d5, d6, d7] => { results := [.lit (.bool false)], args := [d1, d2, d3, d4, d5, d6, d7] }
  | _ => none }
def BlendProofWrongFalsely : Prop := blendProofRow.holds Try.pinned (OpenSpec.ofChange blendProofWrong)

/-- 'wormtublaw09.BlendNames': WHATEVER THE INPUT: true; the input reads as it did. -/
def blendNamesSpec : ChangeSpec := { name := "blendNames", fn := fun _ => fun
  | [] => { results := [.lit (.bool true)], args := [] }
  | _ => none }
def blendNamesRow : OpenClaim := { program := "ytlboglkgbhjpeaa", sum := "b9c5c4a15378364e2cbe4487754df49c59daf1b3a308f7250e1fcf1bd24e5365", func := "wormtub/wormtublaw09.BlendNames", spec := "blendNames", unfollowed := true, recurses := true, plainKeys := false, apart := false }
def BlendNamesSaid : Prop := blendNamesRow.holds Try.pinned (OpenSpec.ofChange blendNamesSpec)

/-- ITS FALSE NEIGHBOUR: 'it returns false'. Refute it at one input. -/
def blendNamesWrong : ChangeSpec := { name := "blendNames", fn := fun _ => fun
  | [] => { results := [.lit (.bool false)], args := [] }
  | _ => none }
def BlendNamesWrongFalsely : Prop := blendNamesRow.holds Try.pinned (OpenSpec.ofChange blendNamesWrong)

/- THE SECOND FORM. 'bulk': how many values and letters a reading holds, each counted each time it is reached (what is shared counts as often as it is met; a slice's spare places count too). A statement '..UptoSaid' is the law's where the arguments, and the package variables that the reading takes, are together of bulk at most 1048576: NARROWER than '..Said'. Prove '..Said' where nothing that the law and all that it calls make is longer than what came in: it says more and counts as full. Else prove '..UptoSaid'. A law counts once. -/
mutual
def uptoBulk {H : Type} : DataW H → Nat
  | .lit (.string bytes) => bytes.length + 1
  | .lit _ => 1
  | .nil => 1
  | .ptr d => uptoBulk d + 1
  | .slice elems spare => uptoBulkAll elems + uptoBulkAll spare + 1
  | .agg parts => uptoBulkAll parts + 1
  | .iface _ d => uptoBulk d + 1
  | .map entries => uptoBulkEntries entries + 1
  | .held _ => 1
def uptoBulkAll {H : Type} : List (DataW H) → Nat
  | [] => 0
  | d :: r => uptoBulk d + uptoBulkAll r
def uptoBulkEntries {H : Type} : List (Lit × DataW H) → Nat
  | [] => 0
  | x :: r => uptoBulkEntry x + uptoBulkEntries r
def uptoBulkEntry {H : Type} : Lit × DataW H → Nat
  | (.string bytes, d) => bytes.length + uptoBulk d + 1
  | (_, d) => uptoBulk d + 1
 end
def uptoSmall : (H : Type) → List (DataW H) → Bool := fun _ ds => decide (uptoBulkAll ds ≤ 1048576)
def OpenSpec.upto (s : _root_.Go.ChangeSpec) : _root_.Go.OpenSpec := { _root_.Go.OpenSpec.ofChange s with cond := some uptoSmall }

/-- 'wormtublaw09.BlendOwns', WHERE WHAT IT READS IS OF BULK AT MOST 1048576: true; the input reads as it did. -/
def blendOwnsUptoRow : OpenClaim := { program := "ytlboglkgbhjpeaa", sum := "b9c5c4a15378364e2cbe4487754df49c59daf1b3a308f7250e1fcf1bd24e5365", func := "wormtub/wormtublaw09.BlendOwns", spec := "blendOwns", unfollowed := true, recurses := true, plainKeys := false, apart := false, narrowed := true }
def BlendOwnsUptoSaid : Prop := blendOwnsUptoRow.holds Try.pinned (OpenSpec.upto blendOwnsSpec)

/-- 'wormtublaw09.BlendPlans', WHERE WHAT IT READS IS OF BULK AT MOST 1048576: true; the input reads as it did. -/
def blendPlansUptoRow : OpenClaim := { program := "ytlboglkgbhjpeaa", sum := "b9c5c4a15378364e2cbe4487754df49c59daf1b3a308f7250e1fcf1bd24e5365", func := "wormtub/wormtublaw09.BlendPlans", spec := "blendPlans", unfollowed := true, recurses := true, plainKeys := false, apart := false, narrowed := true }
def BlendPlansUptoSaid : Prop := blendPlansUptoRow.holds Try.pinned (OpenSpec.upto blendPlansSpec)

/-- 'wormtublaw09.BlendYears', WHERE WHAT IT READS IS OF BULK AT MOST 1048576: true; the input reads as it did. -/
def blendYearsUptoRow : OpenClaim := { program := "ytlboglkgbhjpeaa", sum := "b9c5c4a15378364e2cbe4487754df49c59daf1b3a308f7250e1fcf1bd24e5365", func := "wormtub/wormtublaw09.BlendYears", spec := "blendYears", unfollowed := true, recurses := true, plainKeys := false, apart := false, narrowed := true }
def BlendYearsUptoSaid : Prop := blendYearsUptoRow.holds Try.pinned (OpenSpec.upto blendYearsSpec)

/-- 'wormtublaw09.BlendMade', WHERE WHAT IT READS IS OF BULK AT MOST 1048576: true; the input reads as it did. -/
def blendMadeUptoRow : OpenClaim := { program := "ytlboglkgbhjpeaa", sum := "b9c5c4a15378364e2cbe4487754df49c59daf1b3a308f7250e1fcf1bd24e5365", func := "wormtub/wormtublaw09.BlendMade", spec := "blendMade", unfollowed := true, recurses := true, plainKeys := false, apart := false, narrowed := true }
def BlendMadeUptoSaid : Prop := blendMadeUptoRow.holds Try.pinned (OpenSpec.upto blendMadeSpec)

/-- 'wormtublaw09.BlendTrue', WHERE WHAT IT READS IS OF BULK AT MOST 1048576: true; the input reads as it did. -/
def blendTrueUptoRow : OpenClaim := { program := "ytlboglkgbhjpeaa", sum := "b9c5c4a15378364e2cbe4487754df49c59daf1b3a308f7250e1fcf1bd24e5365", func := "wormtub/wormtublaw09.BlendTrue", spec := "blendTrue", unfollowed := true, recurses := true, plainKeys := false, apart := false, narrowed := true }
def BlendTrueUptoSaid : Prop := blendTrueUptoRow.holds Try.pinned (OpenSpec.upto blendTrueSpec)

/-- 'wormtublaw09.BlendLeast', WHERE WHAT IT READS IS OF BULK AT MOST 1048576: true; the input reads as it did. -/
def blendLeastUptoRow : OpenClaim := { program := "ytlboglkgbhjpeaa", sum := "b9c5c4a15378364e2cbe4487754df49c59daf1b3a308f7250e1fcf1bd24e5365", func := "wormtub/wormtublaw09.BlendLeast", spec := "blendLeast", unfollowed := true, recurses := true, plainKeys := false, apart := false, narrowed := true }
def BlendLeastUptoSaid : Prop := blendLeastUptoRow.holds Try.pinned (OpenSpec.upto blendLeastSpec)

/-- 'wormtublaw09.BlendPaths', WHERE WHAT IT READS IS OF BULK AT MOST 1048576: true; the input reads as it did. -/
def blendPathsUptoRow : OpenClaim := { program := "ytlboglkgbhjpeaa", sum := "b9c5c4a15378364e2cbe4487754df49c59daf1b3a308f7250e1fcf1bd24e5365", func := "wormtub/wormtublaw09.BlendPaths", spec := "blendPaths", unfollowed := true, recurses := true, plainKeys := false, apart := false, narrowed := true }
def BlendPathsUptoSaid : Prop := blendPathsUptoRow.holds Try.pinned (OpenSpec.upto blendPathsSpec)

/-- 'wormtublaw09.BlendFirst', WHERE WHAT IT READS IS OF BULK AT MOST 1048576: true; the input reads as it did. -/
def blendFirstUptoRow : OpenClaim := { program := "ytlboglkgbhjpeaa", sum := "b9c5c4a15378364e2cbe4487754df49c59daf1b3a308f7250e1fcf1bd24e5365", func := "wormtub/wormtublaw09.BlendFirst", spec := "blendFirst", unfollowed := true, recurses := true, plainKeys := false, apart := false, narrowed := true }
def BlendFirstUptoSaid : Prop := blendFirstUptoRow.holds Try.pinned (OpenSpec.upto blendFirstSpec)

/-- 'wormtublaw09.BlendCheapest', WHERE WHAT IT READS IS OF BULK AT MOST 1048576: true; the input reads as it did. -/
def blendCheapestUptoRow : OpenClaim := { program := "ytlboglkgbhjpeaa", sum := "b9c5c4a15378364e2cbe4487754df49c59daf1b3a308f7250e1fcf1bd24e5365", func := "wormtub/wormtublaw09.BlendCheapest", spec := "blendCheapest", unfollowed := true, recurses := true, plainKeys := false, apart := false, narrowed := true }
def BlendCheapestUptoSaid : Prop := blendCheapestUptoRow.holds Try.pinned (OpenSpec.upto blendCheapestSpec)

/-- 'wormtublaw09.BlendProof', WHERE WHAT IT READS IS OF BULK AT MOST 1048576: true; the input reads as it did. -/
def blendProofUptoRow : OpenClaim := { program := "ytlboglkgbhjpeaa", sum := "b9c5c4a15378364e2cbe4487754df49c59daf1b3a308f7250e1fcf1bd24e5365", func := "wormtub/wormtublaw09.BlendProof", spec := "blendProof", unfollowed := true, recurses := true, plainKeys := false, apart := false, narrowed := true }
def BlendProofUptoSaid : Prop := blendProofUptoRow.holds Try.pinned (OpenSpec.upto blendProofSpec)

/-- 'wormtublaw09.BlendNames', WHERE WHAT IT READS IS OF BULK AT MOST 1048576: true; the input reads as it did. -/
def blendNamesUptoRow : OpenClaim := { program := "ytlboglkgbhjpeaa", sum := "b9c5c4a15378364e2cbe4487754df49c59daf1b3a308f7250e1fcf1bd24e5365", func := "wormtub/wormtublaw09.BlendNames", spec := "blendNames", unfollowed := true, recurses := true, plainKeys := false, apart := false, narrowed := true }
def BlendNamesUptoSaid : Prop := blendNamesUptoRow.holds Try.pinned (OpenSpec.upto blendNamesSpec)

end Rows
end Go.Proofs.Ytlboglkgbhjpeaa
