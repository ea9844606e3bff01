/-
  No cell of these rows narrows 'for every input' (looked for: loops, veiled, ifaces, maps, wideKeys, modest, calm, conditions, laid).
  DERIVED. THE GIVEN ROWS OF THIS SEAT. 8 by the template 'for every input the law returns true; each argument reads behind the call as it read before'; 0 by the template 'total and deterministic' (their statements: YtdfbhoejljidfaaTotals.lean).
  GIVEN WITH THE SEED: the statements are not yours to turn. If you find one false, say at which input.
  Laid BY PROGRAM, IN A SANDBOX (cutbox-rows.mjs): the forced cells as the released guide's own fill.sh prints them over the translation 8eb1f3328c68f6e9… (all of the seat's roots in one cut). By AI agents, Wed Nov 11 2026. No macro, syntax, notation, axiom, sorry.
-/
import Derived.Test.YtdfbhoejljidfaaChecked
import GoSem.Claim
import GoSem.ClaimJoined
import GoSem.ClaimMapViews
import Derived.JoinedTies
import Derived.KernelRfl
namespace Go.Proofs.Ytdfbhoejljidfaa
/- THE CELL 'sum', in the pinned program and in every row, IS THE sha256 OF THE DUMP (.gsa) THAT YtdfbhoejljidfaaProg.lean LOADS. Nothing in Lean hashes anything: it is a label: what it is worth is what the hold of that sum in a sandbox is worth. -/
noncomputable def Try.pinned : Pinned := { name := "ytdfbhoejljidfaa", sum := "8eb1f3328c68f6e908de7b58a07479ea8e5e6545fada98839d164b867d513890", checked := Try.checked }
namespace Rows
def none {H : Type} : Left H := { results := [], args := [] }

/-- 'wormtublaw02.MaltPlays': WHATEVER THE INPUT: true; the input reads as it did. -/
def maltPlaysSpec : ChangeSpec := { name := "maltPlays", fn := fun _ => fun
  | [d1, d2] => { results := [.lit (.bool true)], args := [d1, d2] }
  | _ => none }
def maltPlaysRow : OpenClaim := { program := "ytdfbhoejljidfaa", sum := "8eb1f3328c68f6e908de7b58a07479ea8e5e6545fada98839d164b867d513890", func := "wormtub/wormtublaw02.MaltPlays", spec := "maltPlays", unfollowed := true, recurses := true, apart := false }
def MaltPlaysSaid : Prop := maltPlaysRow.holds Try.pinned (OpenSpec.ofChange maltPlaysSpec)

/-- ITS FALSE NEIGHBOUR: 'it returns false'. Refute it at one input. -/
def maltPlaysWrong : ChangeSpec := { name := "maltPlays", fn := fun _ => fun
  | [d1, d2] => { results := [.lit (.bool false)], args := [d1, d2] }
  | _ => none }
def MaltPlaysWrongFalsely : Prop := maltPlaysRow.holds Try.pinned (OpenSpec.ofChange maltPlaysWrong)

/-- 'wormtublaw02.MaltConserves': WHATEVER THE INPUT: true; the input reads as it did. -/
def maltConservesSpec : ChangeSpec := { name := "maltConserves", fn := fun _ => fun
  | [d1, d2, d3] => { results := [.lit (.bool true)], args := [d1, d2, d3] }
  | _ => none }
def maltConservesRow : OpenClaim := { program := "ytdfbhoejljidfaa", sum := "8eb1f3328c68f6e908de7b58a07479ea8e5e6545fada98839d164b867d513890", func := "wormtub/wormtublaw02.MaltConserves", spec := "maltConserves", unfollowed := true, recurses := true, apart := false }
def MaltConservesSaid : Prop := maltConservesRow.holds Try.pinned (OpenSpec.ofChange maltConservesSpec)

/-- ITS FALSE NEIGHBOUR: 'it returns false'. Refute it at one input. -/
def maltConservesWrong : ChangeSpec := { name := "maltConserves", fn := fun _ => fun
  | [d1, d2, d3] => { results := [.lit (.bool false)], args := [d1, d2, d3] }
  | _ => none }
def MaltConservesWrongFalsely : Prop := maltConservesRow.holds Try.pinned (OpenSpec.ofChange maltConservesWrong)

/-- 'wormtublaw02.MaltNarrows': WHATEVER THE INPUT: true; the input reads as it did. -/
def maltNarrowsSpec : ChangeSpec := { name := "maltNarrows", fn := fun _ => fun
  | [d1, d2, d3, d4] => { results := [.lit (.bool true)], args := [d1, d2, d3, d4] }
  | _ => none }
def maltNarrowsRow : OpenClaim := { program := "ytdfbhoejljidfaa", sum := "8eb1f3328c68f6e908de7b58a07479ea8e5e6545fada98839d164b867d513890", func := "wormtub/wormtublaw02.MaltNarrows", spec := "maltNarrows", unfollowed := true, recurses := true, apart := false }
def MaltNarrowsSaid : Prop := maltNarrowsRow.holds Try.pinned (OpenSpec.ofChange maltNarrowsSpec)

/-- ITS FALSE NEIGHBOUR: 'it returns false'. Refute it at one input. -/
def maltNarrowsWrong : ChangeSpec := { name := "maltNarrows", fn := fun _ => fun
  | [d1, d2, d3, d4] => { results := [.lit (.bool false)], args := [d1, d2, d3, d4] }
  | _ => none }
def MaltNarrowsWrongFalsely : Prop := maltNarrowsRow.holds Try.pinned (OpenSpec.ofChange maltNarrowsWrong)

/-- 'wormtublaw02.MaltDust': WHATEVER THE INPUT: true; the input reads as it did. -/
def maltDustSpec : ChangeSpec := { name := "maltDust", fn := fun _ => fun
  | [d1, d2] => { results := [.lit (.bool true)], args := [d1, d2] }
  | _ => none }
def maltDustRow : OpenClaim := { program := "ytdfbhoejljidfaa", sum := "8eb1f3328c68f6e908de7b58a07479ea8e5e6545fada98839d164b867d513890", func := "wormtub/wormtublaw02.MaltDust", spec := "maltDust", unfollowed := true, recurses := true, apart := false }
def MaltDustSaid : Prop := maltDustRow.holds Try.pinned (OpenSpec.ofChange maltDustSpec)

/-- ITS FALSE NEIGHBOUR: 'it returns false'. Refute it at one input. -/
def maltDustWrong : ChangeSpec := { name := "maltDust", fn := fun _ => fun
  | [d1, d2] => { results := [.lit (.bool false)], args := [d1, d2] }
  | _ => none }
def MaltDustWrongFalsely : Prop := maltDustRow.holds Try.pinned (OpenSpec.ofChange maltDustWrong)

/-- 'wormtublaw02.MaltAir': WHATEVER THE INPUT: true; the input reads as it did. -/
def maltAirSpec : ChangeSpec := { name := "maltAir", fn := fun _ => fun
  | [d1, d2, d3, d4] => { results := [.lit (.bool true)], args := [d1, d2, d3, d4] }
  | _ => none }
def maltAirRow : OpenClaim := { program := "ytdfbhoejljidfaa", sum := "8eb1f3328c68f6e908de7b58a07479ea8e5e6545fada98839d164b867d513890", func := "wormtub/wormtublaw02.MaltAir", spec := "maltAir", unfollowed := true, recurses := true, apart := false }
def MaltAirSaid : Prop := maltAirRow.holds Try.pinned (OpenSpec.ofChange maltAirSpec)

/-- ITS FALSE NEIGHBOUR: 'it returns false'. Refute it at one input. -/
def maltAirWrong : ChangeSpec := { name := "maltAir", fn := fun _ => fun
  | [d1, d2, d3, d4] => { results := [.lit (.bool false)], args := [d1, d2, d3, d4] }
  | _ => none }
def MaltAirWrongFalsely : Prop := maltAirRow.holds Try.pinned (OpenSpec.ofChange maltAirWrong)

/-- 'wormtublaw02.MaltEver': WHATEVER THE INPUT: true; the input reads as it did. -/
def maltEverSpec : ChangeSpec := { name := "maltEver", fn := fun _ => fun
  | [d1, d2] => { results := [.lit (.bool true)], args := [d1, d2] }
  | _ => none }
def maltEverRow : OpenClaim := { program := "ytdfbhoejljidfaa", sum := "8eb1f3328c68f6e908de7b58a07479ea8e5e6545fada98839d164b867d513890", func := "wormtub/wormtublaw02.MaltEver", spec := "maltEver", unfollowed := true, recurses := true, apart := false }
def MaltEverSaid : Prop := maltEverRow.holds Try.pinned (OpenSpec.ofChange maltEverSpec)

/-- ITS FALSE NEIGHBOUR: 'it returns false'. Refute it at one input. -/
def maltEverWrong : ChangeSpec := { name := "maltEver", fn := fun _ => fun
  | [d1, d2] => { results := [.lit (.bool false)], args := [d1, d2] }
  | _ => none }
def MaltEverWrongFalsely : Prop := maltEverRow.holds Try.pinned (OpenSpec.ofChange maltEverWrong)

/-- 'wormtublaw02.MaltGrists': WHATEVER THE INPUT: true; the input reads as it did. -/
def maltGristsSpec : ChangeSpec := { name := "maltGrists", fn := fun _ => fun
  | [d1, d2, d3, d4] => { results := [.lit (.bool true)], args := [d1, d2, d3, d4] }
  | _ => none }
def maltGristsRow : OpenClaim := { program := "ytdfbhoejljidfaa", sum := "8eb1f3328c68f6e908de7b58a07479ea8e5e6545fada98839d164b867d513890", func := "wormtub/wormtublaw02.MaltGrists", spec := "maltGrists", unfollowed := true, recurses := true, apart := false }
def MaltGristsSaid : Prop := maltGristsRow.holds Try.pinned (OpenSpec.ofChange maltGristsSpec)

/-- ITS FALSE NEIGHBOUR: 'it returns false'. Refute it at one input. -/
def maltGristsWrong : ChangeSpec := { name := "maltGrists", fn := fun _ => fun
  | [d1, d2, d3, d4] => { results := [.lit (.bool false)], args := [d1, d2, d3, d4] }
  | _ => none }
def MaltGristsWrongFalsely : Prop := maltGristsRow.holds Try.pinned (OpenSpec.ofChange maltGristsWrong)

/-- 'wormtublaw02.MaltCheapest': WHATEVER THE INPUT: true; the input reads as it did. -/
def maltCheapestSpec : ChangeSpec := { name := "maltCheapest", fn := fun _ => fun
  | [d1, d2, d3, d4, d5, d6, d7] => { results := [.lit (.bool true)], args := [d1, d2, d3, d4, d5, d6, d7] }
  | _ => none }
def maltCheapestRow : OpenClaim := { program := "ytdfbhoejljidfaa", sum := "8eb1f3328c68f6e908de7b58a07479ea8e5e6545fada98839d164b867d513890", func := "wormtub/wormtublaw02.MaltCheapest", spec := "maltCheapest", unfollowed := true, recurses := true, apart := false }
def MaltCheapestSaid : Prop := maltCheapestRow.holds Try.pinned (OpenSpec.ofChange maltCheapestSpec)

/-- ITS FALSE NEIGHBOUR: 'it returns false'. Refute it at one input. -/
def maltCheapestWrong : ChangeSpec := { name := "maltCheapest", fn := fun _ => fun
  | [d1, d2, d3, d4, d5, d6, d7] => { results := [.lit (.bool false)], args := [d1, d2, d3, d4, d5, d6, d7] }
  | _ => none }
def MaltCheapestWrongFalsely : Prop := maltCheapestRow.holds Try.pinned (OpenSpec.ofChange maltCheapestWrong)

/- THE SECOND FORM. 'bulk': how many values and letters a reading holds, each counted each time it is reached (what is shared counts as often as it is met; a slice's spare places count too). A statement '..UptoSaid' is the law's where the arguments, and the package variables that the reading takes, are together of bulk at most 1048576: NARROWER than '..Said'. Prove '..Said' where nothing that the law and all that it calls make is longer than what came in: it says more and counts as full. Else prove '..UptoSaid'. A law counts once. -/
mutual
def uptoBulk {H : Type} : DataW H → Nat
  | .lit (.string bytes) => bytes.length + 1
  | .lit _ => 1
  | .nil => 1
  | .ptr d => uptoBulk d + 1
  | .slice elems spare => uptoBulkAll elems + uptoBulkAll spare + 1
  | .agg parts => uptoBulkAll parts + 1
  | .iface _ d => uptoBulk d + 1
  | .map entries => uptoBulkEntries entries + 1
  | .held _ => 1
def uptoBulkAll {H : Type} : List (DataW H) → Nat
  | [] => 0
  | d :: r => uptoBulk d + uptoBulkAll r
def uptoBulkEntries {H : Type} : List (Lit × DataW H) → Nat
  | [] => 0
  | x :: r => uptoBulkEntry x + uptoBulkEntries r
def uptoBulkEntry {H : Type} : Lit × DataW H → Nat
  | (.string bytes, d) => bytes.length + uptoBulk d + 1
  | (_, d) => uptoBulk d + 1
 end
def uptoSmall : (H : Type) → List (DataW H) → Bool := fun _ ds => decide (uptoBulkAll ds ≤ 1048576)
def OpenSpec.upto (s : _root_.Go.ChangeSpec) : _root_.Go.OpenSpec := { _root_.Go.OpenSpec.ofChange s with cond := some uptoSmall }

/-- 'wormtublaw02.MaltPlays', WHERE WHAT IT READS IS OF BULK AT MOST 1048576: true; the input reads as it did. -/
def maltPlaysUptoRow : OpenClaim := { program := "ytdfbhoejljidfaa", sum := "8eb1f3328c68f6e908de7b58a07479ea8e5e6545fada98839d164b867d513890", func := "wormtub/wormtublaw02.MaltPlays", spec := "maltPlays", unfollowed := true, recurses := true, apart := false, narrowed := true }
def MaltPlaysUptoSaid : Prop := maltPlaysUptoRow.holds Try.pinned (OpenSpec.upto maltPlaysSpec)

/-- 'wormtublaw02.MaltConserves', WHERE WHAT IT READS IS OF BULK AT MOST 1048576: true; the input reads as it did. -/
def maltConservesUptoRow : OpenClaim := { program := "ytdfbhoejljidfaa", sum := "8eb1f3328c68f6e908de7b58a07479ea8e5e6545fada98839d164b867d513890", func := "wormtub/wormtublaw02.MaltConserves", spec := "maltConserves", unfollowed := true, recurses := true, apart := false, narrowed := true }
def MaltConservesUptoSaid : Prop := maltConservesUptoRow.holds Try.pinned (OpenSpec.upto maltConservesSpec)

/-- 'wormtublaw02.MaltNarrows', WHERE WHAT IT READS IS OF BULK AT MOST 1048576: true; the input reads as it did. -/
def maltNarrowsUptoRow : OpenClaim := { program := "ytdfbhoejljidfaa", sum := "8eb1f3328c68f6e908de7b58a07479ea8e5e6545fada98839d164b867d513890", func := "wormtub/wormtublaw02.MaltNarrows", spec := "maltNarrows", unfollowed := true, recurses := true, apart := false, narrowed := true }
def MaltNarrowsUptoSaid : Prop := maltNarrowsUptoRow.holds Try.pinned (OpenSpec.upto maltNarrowsSpec)

/-- 'wormtublaw02.MaltDust', WHERE WHAT IT READS IS OF BULK AT MOST 1048576: true; the input reads as it did. -/
def maltDustUptoRow : OpenClaim := { program := "ytdfbhoejljidfaa", sum := "8eb1f3328c68f6e908de7b58a07479ea8e5e6545fada98839d164b867d513890", func := "wormtub/wormtublaw02.MaltDust", spec := "maltDust", unfollowed := true, recurses := true, apart := false, narrowed := true }
def MaltDustUptoSaid : Prop := maltDustUptoRow.holds Try.pinned (OpenSpec.upto maltDustSpec)

/-- 'wormtublaw02.MaltAir', WHERE WHAT IT READS IS OF BULK AT MOST 1048576: true; the input reads as it did. -/
def maltAirUptoRow : OpenClaim := { program := "ytdfbhoejljidfaa", sum := "8eb1f3328c68f6e908de7b58a07479ea8e5e6545fada98839d164b867d513890", func := "wormtub/wormtublaw02.MaltAir", spec := "maltAir", unfollowed := true, recurses := true, apart := false, narrowed := true }
def MaltAirUptoSaid : Prop := maltAirUptoRow.holds Try.pinned (OpenSpec.upto maltAirSpec)

/-- 'wormtublaw02.MaltEver', WHERE WHAT IT READS IS OF BULK AT MOST 1048576: true; the input reads as it did. -/
def maltEverUptoRow : OpenClaim := { program := "ytdfbhoejljidfaa", sum := "8eb1f3328c68f6e908de7b58a07479ea8e5e6545fada98839d164b867d513890", func := "wormtub/wormtublaw02.MaltEver", spec := "maltEver", unfollowed := true, recurses := true, apart := false, narrowed := true }
def MaltEverUptoSaid : Prop := maltEverUptoRow.holds Try.pinned (OpenSpec.upto maltEverSpec)

/-- 'wormtublaw02.MaltGrists', WHERE WHAT IT READS IS OF BULK AT MOST 1048576: true; the input reads as it did. -/
def maltGristsUptoRow : OpenClaim := { program := "ytdfbhoejljidfaa", sum := "8eb1f3328c68f6e908de7b58a07479ea8e5e6545fada98839d164b867d513890", func := "wormtub/wormtublaw02.MaltGrists", spec := "maltGrists", unfollowed := true, recurses := true, apart := false, narrowed := true }
def MaltGristsUptoSaid : Prop := maltGristsUptoRow.holds Try.pinned (OpenSpec.upto maltGristsSpec)

/-- 'wormtublaw02.MaltCheapest', WHERE WHAT IT READS IS OF BULK AT MOST 1048576: true; the input reads as it did. -/
def maltCheapestUptoRow : OpenClaim := { program := "ytdfbhoejljidfaa", sum := "8eb1f3328c68f6e908de7b58a07479ea8e5e6545fada98839d164b867d513890", func := "wormtub/wormtublaw02.MaltCheapest", spec := "maltCheapest", unfollowed := true, recurses := true, apart := false, narrowed := true }
def MaltCheapestUptoSaid : Prop := maltCheapestUptoRow.holds Try.pinned (OpenSpec.upto maltCheapestSpec)

end Rows
end Go.Proofs.Ytdfbhoejljidfaa
