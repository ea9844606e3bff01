/-
  No cell of these rows narrows 'for every input' (looked for: loops, veiled, ifaces, maps, wideKeys, modest, calm, conditions, laid).
  DERIVED. THE GIVEN ROWS OF THIS SEAT. 6 by the template 'for every input the law returns true; each argument reads behind the call as it read before'; 0 by the template 'total and deterministic' (their statements: YtoionnljbacmkaaTotals.lean).
  GIVEN WITH THE SEED: the statements are not yours to turn. If you find one false, say at which input.
  Laid BY PROGRAM, IN A SANDBOX (cutbox-rows.mjs): the forced cells as the released guide's own fill.sh prints them over the translation f2cc7cd8b0de6320… (all of the seat's roots in one cut). By AI agents, Wed Nov 11 2026. No macro, syntax, notation, axiom, sorry.
-/
import Derived.Test.YtoionnljbacmkaaChecked
import GoSem.Claim
import GoSem.ClaimJoined
import GoSem.ClaimMapViews
import Derived.JoinedTies
import Derived.KernelRfl
namespace Go.Proofs.Ytoionnljbacmkaa
/- THE CELL 'sum', in the pinned program and in every row, IS THE sha256 OF THE DUMP (.gsa) THAT YtoionnljbacmkaaProg.lean LOADS. Nothing in Lean hashes anything: it is a label: what it is worth is what the hold of that sum in a sandbox is worth. -/
noncomputable def Try.pinned : Pinned := { name := "ytoionnljbacmkaa", sum := "f2cc7cd8b0de6320c46ff5cde7a788efb1a1e76db02df56999fbcfb74e876a08", checked := Try.checked }
namespace Rows
def none {H : Type} : Left H := { results := [], args := [] }

/-- 'wormtublaw13.GenuineOrigins': WHATEVER THE INPUT: true; the input reads as it did. -/
def genuineOriginsSpec : ChangeSpec := { name := "genuineOrigins", fn := fun _ => fun
  | [d1, d2, d3, d4] => { results := [.lit (.bool true)], args := [d1, d2, d3, d4] }
  | _ => none }
def genuineOriginsRow : OpenClaim := { program := "ytoionnljbacmkaa", sum := "f2cc7cd8b0de6320c46ff5cde7a788efb1a1e76db02df56999fbcfb74e876a08", func := "wormtub/wormtublaw13.GenuineOrigins", spec := "genuineOrigins", unfollowed := true, recurses := true, apart := false }
def GenuineOriginsSaid : Prop := genuineOriginsRow.holds Try.pinned (OpenSpec.ofChange genuineOriginsSpec)

/-- ITS FALSE NEIGHBOUR: 'it returns false'. Refute it at one input. -/
def genuineOriginsWrong : ChangeSpec := { name := "genuineOrigins", fn := fun _ => fun
  | [d1, d2, d3, d4] => { results := [.lit (.bool false)], args := [d1, d2, d3, d4] }
  | _ => none }
def GenuineOriginsWrongFalsely : Prop := genuineOriginsRow.holds Try.pinned (OpenSpec.ofChange genuineOriginsWrong)

/-- 'wormtublaw13.GenuineAsks': WHATEVER THE INPUT: true; the input reads as it did. -/
def genuineAsksSpec : ChangeSpec := { name := "genuineAsks", fn := fun _ => fun
  | [d1, d2] => { results := [.lit (.bool true)], args := [d1, d2] }
  | _ => none }
def genuineAsksRow : OpenClaim := { program := "ytoionnljbacmkaa", sum := "f2cc7cd8b0de6320c46ff5cde7a788efb1a1e76db02df56999fbcfb74e876a08", func := "wormtub/wormtublaw13.GenuineAsks", spec := "genuineAsks", unfollowed := true, recurses := true, apart := false }
def GenuineAsksSaid : Prop := genuineAsksRow.holds Try.pinned (OpenSpec.ofChange genuineAsksSpec)

/-- ITS FALSE NEIGHBOUR: 'it returns false'. Refute it at one input. -/
def genuineAsksWrong : ChangeSpec := { name := "genuineAsks", fn := fun _ => fun
  | [d1, d2] => { results := [.lit (.bool false)], args := [d1, d2] }
  | _ => none }
def GenuineAsksWrongFalsely : Prop := genuineAsksRow.holds Try.pinned (OpenSpec.ofChange genuineAsksWrong)

/-- 'wormtublaw13.GenuineTrue': WHATEVER THE INPUT: true; the input reads as it did. -/
def genuineTrueSpec : ChangeSpec := { name := "genuineTrue", fn := fun _ => fun
  | [d1, d2, d3, d4, d5] => { results := [.lit (.bool true)], args := [d1, d2, d3, d4, d5] }
  | _ => none }
def genuineTrueRow : OpenClaim := { program := "ytoionnljbacmkaa", sum := "f2cc7cd8b0de6320c46ff5cde7a788efb1a1e76db02df56999fbcfb74e876a08", func := "wormtub/wormtublaw13.GenuineTrue", spec := "genuineTrue", unfollowed := true, recurses := true, apart := false }
def GenuineTrueSaid : Prop := genuineTrueRow.holds Try.pinned (OpenSpec.ofChange genuineTrueSpec)

/-- ITS FALSE NEIGHBOUR: 'it returns false'. Refute it at one input. -/
def genuineTrueWrong : ChangeSpec := { name := "genuineTrue", fn := fun _ => fun
  | [d1, d2, d3, d4, d5] => { results := [.lit (.bool false)], args := [d1, d2, d3, d4, d5] }
  | _ => none }
def GenuineTrueWrongFalsely : Prop := genuineTrueRow.holds Try.pinned (OpenSpec.ofChange genuineTrueWrong)

/-- 'wormtublaw13.GenuineEnds': WHATEVER THE INPUT: true; the input reads as it did. -/
def genuineEndsSpec : ChangeSpec := { name := "genuineEnds", fn := fun _ => fun
  | [d1, d2, d3, d4, d5] => { results := [.lit (.bool true)], args := [d1, d2, d3, d4, d5] }
  | _ => none }
def genuineEndsRow : OpenClaim := { program := "ytoionnljbacmkaa", sum := "f2cc7cd8b0de6320c46ff5cde7a788efb1a1e76db02df56999fbcfb74e876a08", func := "wormtub/wormtublaw13.GenuineEnds", spec := "genuineEnds", unfollowed := true, recurses := true, apart := false }
def GenuineEndsSaid : Prop := genuineEndsRow.holds Try.pinned (OpenSpec.ofChange genuineEndsSpec)

/-- ITS FALSE NEIGHBOUR: 'it returns false'. Refute it at one input. -/
def genuineEndsWrong : ChangeSpec := { name := "genuineEnds", fn := fun _ => fun
  | [d1, d2, d3, d4, d5] => { results := [.lit (.bool false)], args := [d1, d2, d3, d4, d5] }
  | _ => none }
def GenuineEndsWrongFalsely : Prop := genuineEndsRow.holds Try.pinned (OpenSpec.ofChange genuineEndsWrong)

/-- 'wormtublaw13.GenuineLess': WHATEVER THE INPUT: true; the input reads as it did. -/
def genuineLessSpec : ChangeSpec := { name := "genuineLess", fn := fun _ => fun
  | [d1, d2, d3, d4] => { results := [.lit (.bool true)], args := [d1, d2, d3, d4] }
  | _ => none }
def genuineLessRow : OpenClaim := { program := "ytoionnljbacmkaa", sum := "f2cc7cd8b0de6320c46ff5cde7a788efb1a1e76db02df56999fbcfb74e876a08", func := "wormtub/wormtublaw13.GenuineLess", spec := "genuineLess", unfollowed := true, recurses := true, apart := false }
def GenuineLessSaid : Prop := genuineLessRow.holds Try.pinned (OpenSpec.ofChange genuineLessSpec)

/-- ITS FALSE NEIGHBOUR: 'it returns false'. Refute it at one input. -/
def genuineLessWrong : ChangeSpec := { name := "genuineLess", fn := fun _ => fun
  | [d1, d2, d3, d4] => { results := [.lit (.bool false)], args := [d1, d2, d3, d4] }
  | _ => none }
def GenuineLessWrongFalsely : Prop := genuineLessRow.holds Try.pinned (OpenSpec.ofChange genuineLessWrong)

/-- 'wormtublaw13.GenuineApart': WHATEVER THE INPUT: true; the input reads as it did. -/
def genuineApartSpec : ChangeSpec := { name := "genuineApart", fn := fun _ => fun
  | [d1, d2, d3] => { results := [.lit (.bool true)], args := [d1, d2, d3] }
  | _ => none }
def genuineApartRow : OpenClaim := { program := "ytoionnljbacmkaa", sum := "f2cc7cd8b0de6320c46ff5cde7a788efb1a1e76db02df56999fbcfb74e876a08", func := "wormtub/wormtublaw13.GenuineApart", spec := "genuineApart", unfollowed := true, recurses := true, apart := false }
def GenuineApartSaid : Prop := genuineApartRow.holds Try.pinned (OpenSpec.ofChange genuineApartSpec)

/-- ITS FALSE NEIGHBOUR: 'it returns false'. Refute it at one input. -/
def genuineApartWrong : ChangeSpec := { name := "genuineApart", fn := fun _ => fun
  | [d1, d2, d3] => { results := [.lit (.bool false)], args := [d1, d2, d3] }
  | _ => none }
def GenuineApartWrongFalsely : Prop := genuineApartRow.holds Try.pinned (OpenSpec.ofChange genuineApartWrong)

/- THE SECOND FORM. 'bulk': how many values and letters a reading holds, each counted each time it is reached (what is shared counts as often as it is met; a slice's spare places count too). A statement '..UptoSaid' is the law's where the arguments, and the package variables that the reading takes, are together of bulk at most 1048576: NARROWER than '..Said'. Prove '..Said' where nothing that the law and all that it calls make is longer than what came in: it says more and counts as full. Else prove '..UptoSaid'. A law counts once. -/
mutual
def uptoBulk {H : Type} : DataW H → Nat
  | .lit (.string bytes) => bytes.length + 1
  | .lit _ => 1
  | .nil => 1
  | .ptr d => uptoBulk d + 1
  | .slice elems spare => uptoBulkAll elems + uptoBulkAll spare + 1
  | .agg parts => uptoBulkAll parts + 1
  | .iface _ d => uptoBulk d + 1
  | .map entries => uptoBulkEntries entries + 1
  | .held _ => 1
def uptoBulkAll {H : Type} : List (DataW H) → Nat
  | [] => 0
  | d :: r => uptoBulk d + uptoBulkAll r
def uptoBulkEntries {H : Type} : List (Lit × DataW H) → Nat
  | [] => 0
  | x :: r => uptoBulkEntry x + uptoBulkEntries r
def uptoBulkEntry {H : Type} : Lit × DataW H → Nat
  | (.string bytes, d) => bytes.length + uptoBulk d + 1
  | (_, d) => uptoBulk d + 1
 end
def uptoSmall : (H : Type) → List (DataW H) → Bool := fun _ ds => decide (uptoBulkAll ds ≤ 1048576)
def OpenSpec.upto (s : _root_.Go.ChangeSpec) : _root_.Go.OpenSpec := { _root_.Go.OpenSpec.ofChange s with cond := some uptoSmall }

/-- 'wormtublaw13.GenuineOrigins', WHERE WHAT IT READS IS OF BULK AT MOST 1048576: true; the input reads as it did. -/
def genuineOriginsUptoRow : OpenClaim := { program := "ytoionnljbacmkaa", sum := "f2cc7cd8b0de6320c46ff5cde7a788efb1a1e76db02df56999fbcfb74e876a08", func := "wormtub/wormtublaw13.GenuineOrigins", spec := "genuineOrigins", unfollowed := true, recurses := true, apart := false, narrowed := true }
def GenuineOriginsUptoSaid : Prop := genuineOriginsUptoRow.holds Try.pinned (OpenSpec.upto genuineOriginsSpec)

/-- 'wormtublaw13.GenuineAsks', WHERE WHAT IT READS IS OF BULK AT MOST 1048576: true; the input reads as it did. -/
def genuineAsksUptoRow : OpenClaim := { program := "ytoionnljbacmkaa", sum := "f2cc7cd8b0de6320c46ff5cde7a788efb1a1e76db02df56999fbcfb74e876a08", func := "wormtub/wormtublaw13.GenuineAsks", spec := "genuineAsks", unfollowed := true, recurses := true, apart := false, narrowed := true }
def GenuineAsksUptoSaid : Prop := genuineAsksUptoRow.holds Try.pinned (OpenSpec.upto genuineAsksSpec)

/-- 'wormtublaw13.GenuineTrue', WHERE WHAT IT READS IS OF BULK AT MOST 1048576: true; the input reads as it did. -/
def genuineTrueUptoRow : OpenClaim := { program := "ytoionnljbacmkaa", sum := "f2cc7cd8b0de6320c46ff5cde7a788efb1a1e76db02df56999fbcfb74e876a08", func := "wormtub/wormtublaw13.GenuineTrue", spec := "genuineTrue", unfollowed := true, recurses := true, apart := false, narrowed := true }
def GenuineTrueUptoSaid : Prop := genuineTrueUptoRow.holds Try.pinned (OpenSpec.upto genuineTrueSpec)

/-- 'wormtublaw13.GenuineEnds', WHERE WHAT IT READS IS OF BULK AT MOST 1048576: true; the input reads as it did. -/
def genuineEndsUptoRow : OpenClaim := { program := "ytoionnljbacmkaa", sum := "f2cc7cd8b0de6320c46ff5cde7a788efb1a1e76db02df56999fbcfb74e876a08", func := "wormtub/wormtublaw13.GenuineEnds", spec := "genuineEnds", unfollowed := true, recurses := true, apart := false, narrowed := true }
def GenuineEndsUptoSaid : Prop := genuineEndsUptoRow.holds Try.pinned (OpenSpec.upto genuineEndsSpec)

/-- 'wormtublaw13.GenuineLess', WHERE WHAT IT READS IS OF BULK AT MOST 1048576: true; the input reads as it did. -/
def genuineLessUptoRow : OpenClaim := { program := "ytoionnljbacmkaa", sum := "f2cc7cd8b0de6320c46ff5cde7a788efb1a1e76db02df56999fbcfb74e876a08", func := "wormtub/wormtublaw13.GenuineLess", spec := "genuineLess", unfollowed := true, recurses := true, apart := false, narrowed := true }
def GenuineLessUptoSaid : Prop := genuineLessUptoRow.holds Try.pinned (OpenSpec.upto genuineLessSpec)

/-- 'wormtublaw13.GenuineApart', WHERE WHAT IT READS IS OF BULK AT MOST 1048576: true; the input reads as it did. -/
def genuineApartUptoRow : OpenClaim := { program := "ytoionnljbacmkaa", sum := "f2cc7cd8b0de6320c46ff5cde7a788efb1a1e76db02df56999fbcfb74e876a08", func := "wormtub/wormtublaw13.GenuineApart", spec := "genuineApart", unfollowed := true, recurses := true, apart := false, narrowed := true }
def GenuineApartUptoSaid : Prop := genuineApartUptoRow.holds Try.pinned (OpenSpec.upto genuineApartSpec)

end Rows
end Go.Proofs.Ytoionnljbacmkaa
