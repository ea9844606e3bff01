/-
  No cell of these rows narrows 'for every input' (looked for: loops, veiled, ifaces, maps, wideKeys, modest, calm, conditions, laid).
  DERIVED. THE GIVEN ROWS OF THIS SEAT. 8 by the template 'for every input the law returns true; each argument reads behind the call as it read before'; 0 by the template 'total and deterministic' (their statements: YtjpjicnfpikdlaaTotals.lean).
  GIVEN WITH THE SEED: the statements are not yours to turn. If you find one false, say at which input.
  Laid BY PROGRAM, IN A SANDBOX (cutbox-rows.mjs): the forced cells as the released guide's own fill.sh prints them over the translation ffe79ea28098b294… (all of the seat's roots in one cut). By AI agents, Wed Nov 11 2026. No macro, syntax, notation, axiom, sorry.
-/
import Derived.Test.YtjpjicnfpikdlaaChecked
import GoSem.Claim
import GoSem.ClaimJoined
import GoSem.ClaimMapViews
import Derived.JoinedTies
import Derived.KernelRfl
namespace Go.Proofs.Ytjpjicnfpikdlaa
/- THE CELL 'sum', in the pinned program and in every row, IS THE sha256 OF THE DUMP (.gsa) THAT YtjpjicnfpikdlaaProg.lean LOADS. Nothing in Lean hashes anything: it is a label: what it is worth is what the hold of that sum in a sandbox is worth. -/
noncomputable def Try.pinned : Pinned := { name := "ytjpjicnfpikdlaa", sum := "ffe79ea28098b294e2adfab2e6e3e09a03d5fe382fd5b72d19ba3a50f5c4886f", checked := Try.checked }
namespace Rows
def none {H : Type} : Left H := { results := [], args := [] }

/-- 'wormtublaw05.StreamFlows': WHATEVER THE INPUT: true; the input reads as it did. -/
def streamFlowsSpec : ChangeSpec := { name := "streamFlows", fn := fun _ => fun
  | [d1, d2, d3] => { results := [.lit (.bool true)], args := [d1, d2, d3] }
  | _ => none }
def streamFlowsRow : OpenClaim := { program := "ytjpjicnfpikdlaa", sum := "ffe79ea28098b294e2adfab2e6e3e09a03d5fe382fd5b72d19ba3a50f5c4886f", func := "wormtub/wormtublaw05.StreamFlows", spec := "streamFlows", unfollowed := true, recurses := true, apart := false }
def StreamFlowsSaid : Prop := streamFlowsRow.holds Try.pinned (OpenSpec.ofChange streamFlowsSpec)

/-- ITS FALSE NEIGHBOUR: 'it returns false'. Refute it at one input. -/
def streamFlowsWrong : ChangeSpec := { name := "streamFlows", fn := fun _ => fun
  | [d1, d2, d3] => { results := [.lit (.bool false)], args := [d1, d2, d3] }
  | _ => none }
def StreamFlowsWrongFalsely : Prop := streamFlowsRow.holds Try.pinned (OpenSpec.ofChange streamFlowsWrong)

/-- 'wormtublaw05.StreamRooms': WHATEVER THE INPUT: true; the input reads as it did. -/
def streamRoomsSpec : ChangeSpec := { name := "streamRooms", fn := fun _ => fun
  | [d1, d2, d3, d4] => { results := [.lit (.bool true)], args := [d1, d2, d3, d4] }
  | _ => none }
def streamRoomsRow : OpenClaim := { program := "ytjpjicnfpikdlaa", sum := "ffe79ea28098b294e2adfab2e6e3e09a03d5fe382fd5b72d19ba3a50f5c4886f", func := "wormtub/wormtublaw05.StreamRooms", spec := "streamRooms", unfollowed := true, recurses := true, apart := false }
def StreamRoomsSaid : Prop := streamRoomsRow.holds Try.pinned (OpenSpec.ofChange streamRoomsSpec)

/-- ITS FALSE NEIGHBOUR: 'it returns false'. Refute it at one input. -/
def streamRoomsWrong : ChangeSpec := { name := "streamRooms", fn := fun _ => fun
  | [d1, d2, d3, d4] => { results := [.lit (.bool false)], args := [d1, d2, d3, d4] }
  | _ => none }
def StreamRoomsWrongFalsely : Prop := streamRoomsRow.holds Try.pinned (OpenSpec.ofChange streamRoomsWrong)

/-- 'wormtublaw05.StreamRuns': WHATEVER THE INPUT: true; the input reads as it did. -/
def streamRunsSpec : ChangeSpec := { name := "streamRuns", fn := fun _ => fun
  | [d1, d2] => { results := [.lit (.bool true)], args := [d1, d2] }
  | _ => none }
def streamRunsRow : OpenClaim := { program := "ytjpjicnfpikdlaa", sum := "ffe79ea28098b294e2adfab2e6e3e09a03d5fe382fd5b72d19ba3a50f5c4886f", func := "wormtub/wormtublaw05.StreamRuns", spec := "streamRuns", unfollowed := true, recurses := true, apart := false }
def StreamRunsSaid : Prop := streamRunsRow.holds Try.pinned (OpenSpec.ofChange streamRunsSpec)

/-- ITS FALSE NEIGHBOUR: 'it returns false'. Refute it at one input. -/
def streamRunsWrong : ChangeSpec := { name := "streamRuns", fn := fun _ => fun
  | [d1, d2] => { results := [.lit (.bool false)], args := [d1, d2] }
  | _ => none }
def StreamRunsWrongFalsely : Prop := streamRunsRow.holds Try.pinned (OpenSpec.ofChange streamRunsWrong)

/-- 'wormtublaw05.StreamStep': WHATEVER THE INPUT: true; the input reads as it did. -/
def streamStepSpec : ChangeSpec := { name := "streamStep", fn := fun _ => fun
  | [d1, d2, d3] => { results := [.lit (.bool true)], args := [d1, d2, d3] }
  | _ => none }
def streamStepRow : OpenClaim := { program := "ytjpjicnfpikdlaa", sum := "ffe79ea28098b294e2adfab2e6e3e09a03d5fe382fd5b72d19ba3a50f5c4886f", func := "wormtub/wormtublaw05.StreamStep", spec := "streamStep", unfollowed := true, recurses := true, apart := false }
def StreamStepSaid : Prop := streamStepRow.holds Try.pinned (OpenSpec.ofChange streamStepSpec)

/-- ITS FALSE NEIGHBOUR: 'it returns false'. Refute it at one input. -/
def streamStepWrong : ChangeSpec := { name := "streamStep", fn := fun _ => fun
  | [d1, d2, d3] => { results := [.lit (.bool false)], args := [d1, d2, d3] }
  | _ => none }
def StreamStepWrongFalsely : Prop := streamStepRow.holds Try.pinned (OpenSpec.ofChange streamStepWrong)

/-- 'wormtublaw05.StreamNarrows': WHATEVER THE INPUT: true; the input reads as it did. -/
def streamNarrowsSpec : ChangeSpec := { name := "streamNarrows", fn := fun _ => fun
  | [d1, d2, d3, d4] => { results := [.lit (.bool true)], args := [d1, d2, d3, d4] }
  | _ => none }
def streamNarrowsRow : OpenClaim := { program := "ytjpjicnfpikdlaa", sum := "ffe79ea28098b294e2adfab2e6e3e09a03d5fe382fd5b72d19ba3a50f5c4886f", func := "wormtub/wormtublaw05.StreamNarrows", spec := "streamNarrows", unfollowed := true, recurses := true, apart := false }
def StreamNarrowsSaid : Prop := streamNarrowsRow.holds Try.pinned (OpenSpec.ofChange streamNarrowsSpec)

/-- ITS FALSE NEIGHBOUR: 'it returns false'. Refute it at one input. -/
def streamNarrowsWrong : ChangeSpec := { name := "streamNarrows", fn := fun _ => fun
  | [d1, d2, d3, d4] => { results := [.lit (.bool false)], args := [d1, d2, d3, d4] }
  | _ => none }
def StreamNarrowsWrongFalsely : Prop := streamNarrowsRow.holds Try.pinned (OpenSpec.ofChange streamNarrowsWrong)

/-- 'wormtublaw05.StreamWarmer': WHATEVER THE INPUT: true; the input reads as it did. -/
def streamWarmerSpec : ChangeSpec := { name := "streamWarmer", fn := fun _ => fun
  | [d1, d2, d3, d4, d5, d6] => { results := [.lit (.bool true)], args := [d1, d2, d3, d4, d5, d6] }
  | _ => none }
def streamWarmerRow : OpenClaim := { program := "ytjpjicnfpikdlaa", sum := "ffe79ea28098b294e2adfab2e6e3e09a03d5fe382fd5b72d19ba3a50f5c4886f", func := "wormtub/wormtublaw05.StreamWarmer", spec := "streamWarmer", unfollowed := true, recurses := true, apart := false }
def StreamWarmerSaid : Prop := streamWarmerRow.holds Try.pinned (OpenSpec.ofChange streamWarmerSpec)

/-- ITS FALSE NEIGHBOUR: 'it returns false'. Refute it at one input. -/
def streamWarmerWrong : ChangeSpec := { name := "streamWarmer", fn := fun _ => fun
  | [d1, d2, d3, d4, d5, d6] => { results := [.lit (.bool false)], args := [d1, d2, d3, d4, d5, d6] }
  | _ => none }
def StreamWarmerWrongFalsely : Prop := streamWarmerRow.holds Try.pinned (OpenSpec.ofChange streamWarmerWrong)

/-- 'wormtublaw05.StreamRoomy': WHATEVER THE INPUT: true; the input reads as it did. -/
def streamRoomySpec : ChangeSpec := { name := "streamRoomy", fn := fun _ => fun
  | [d1, d2, d3, d4, d5] => { results := [.lit (.bool true)], args := [d1, d2, d3, d4, d5] }
  | _ => none }
def streamRoomyRow : OpenClaim := { program := "ytjpjicnfpikdlaa", sum := "ffe79ea28098b294e2adfab2e6e3e09a03d5fe382fd5b72d19ba3a50f5c4886f", func := "wormtub/wormtublaw05.StreamRoomy", spec := "streamRoomy", unfollowed := true, recurses := true, apart := false }
def StreamRoomySaid : Prop := streamRoomyRow.holds Try.pinned (OpenSpec.ofChange streamRoomySpec)

/-- ITS FALSE NEIGHBOUR: 'it returns false'. Refute it at one input. -/
def streamRoomyWrong : ChangeSpec := { name := "streamRoomy", fn := fun _ => fun
  | [d1, d2, d3, d4, d5] => { results := [.lit (.bool false)], args := [d1, d2, d3, d4, d5] }
  | _ => none }
def StreamRoomyWrongFalsely : Prop := streamRoomyRow.holds Try.pinned (OpenSpec.ofChange streamRoomyWrong)

/-- 'wormtublaw05.StreamPlans': WHATEVER THE INPUT: true; the input reads as it did. -/
def streamPlansSpec : ChangeSpec := { name := "streamPlans", fn := fun _ => fun
  | [d1, d2, d3, d4, d5] => { results := [.lit (.bool true)], args := [d1, d2, d3, d4, d5] }
  | _ => none }
def streamPlansRow : OpenClaim := { program := "ytjpjicnfpikdlaa", sum := "ffe79ea28098b294e2adfab2e6e3e09a03d5fe382fd5b72d19ba3a50f5c4886f", func := "wormtub/wormtublaw05.StreamPlans", spec := "streamPlans", unfollowed := true, recurses := true, apart := false }
def StreamPlansSaid : Prop := streamPlansRow.holds Try.pinned (OpenSpec.ofChange streamPlansSpec)

/-- ITS FALSE NEIGHBOUR: 'it returns false'. Refute it at one input. -/
def streamPlansWrong : ChangeSpec := { name := "streamPlans", fn := fun _ => fun
  | [d1, d2, d3, d4, d5] => { results := [.lit (.bool false)], args := [d1, d2, d3, d4, d5] }
  | _ => none }
def StreamPlansWrongFalsely : Prop := streamPlansRow.holds Try.pinned (OpenSpec.ofChange streamPlansWrong)

/- THE SECOND FORM. 'bulk': how many values and letters a reading holds, each counted each time it is reached (what is shared counts as often as it is met; a slice's spare places count too). A statement '..UptoSaid' is the law's where the arguments, and the package variables that the reading takes, are together of bulk at most 1048576: NARROWER than '..Said'. Prove '..Said' where nothing that the law and all that it calls make is longer than what came in: it says more and counts as full. Else prove '..UptoSaid'. A law counts once. -/
mutual
def uptoBulk {H : Type} : DataW H → Nat
  | .lit (.string bytes) => bytes.length + 1
  | .lit _ => 1
  | .nil => 1
  | .ptr d => uptoBulk d + 1
  | .slice elems spare => uptoBulkAll elems + uptoBulkAll spare + 1
  | .agg parts => uptoBulkAll parts + 1
  | .iface _ d => uptoBulk d + 1
  | .map entries => uptoBulkEntries entries + 1
  | .held _ => 1
def uptoBulkAll {H : Type} : List (DataW H) → Nat
  | [] => 0
  | d :: r => uptoBulk d + uptoBulkAll r
def uptoBulkEntries {H : Type} : List (Lit × DataW H) → Nat
  | [] => 0
  | x :: r => uptoBulkEntry x + uptoBulkEntries r
def uptoBulkEntry {H : Type} : Lit × DataW H → Nat
  | (.string bytes, d) => bytes.length + uptoBulk d + 1
  | (_, d) => uptoBulk d + 1
 end
def uptoSmall : (H : Type) → List (DataW H) → Bool := fun _ ds => decide (uptoBulkAll ds ≤ 1048576)
def OpenSpec.upto (s : _root_.Go.ChangeSpec) : _root_.Go.OpenSpec := { _root_.Go.OpenSpec.ofChange s with cond := some uptoSmall }

/-- 'wormtublaw05.StreamFlows', WHERE WHAT IT READS IS OF BULK AT MOST 1048576: true; the input reads as it did. -/
def streamFlowsUptoRow : OpenClaim := { program := "ytjpjicnfpikdlaa", sum := "ffe79ea28098b294e2adfab2e6e3e09a03d5fe382fd5b72d19ba3a50f5c4886f", func := "wormtub/wormtublaw05.StreamFlows", spec := "streamFlows", unfollowed := true, recurses := true, apart := false, narrowed := true }
def StreamFlowsUptoSaid : Prop := streamFlowsUptoRow.holds Try.pinned (OpenSpec.upto streamFlowsSpec)

/-- 'wormtublaw05.StreamRooms', WHERE WHAT IT READS IS OF BULK AT MOST 1048576: true; the input reads as it did. -/
def streamRoomsUptoRow : OpenClaim := { program := "ytjpjicnfpikdlaa", sum := "ffe79ea28098b294e2adfab2e6e3e09a03d5fe382fd5b72d19ba3a50f5c4886f", func := "wormtub/wormtublaw05.StreamRooms", spec := "streamRooms", unfollowed := true, recurses := true, apart := false, narrowed := true }
def StreamRoomsUptoSaid : Prop := streamRoomsUptoRow.holds Try.pinned (OpenSpec.upto streamRoomsSpec)

/-- 'wormtublaw05.StreamRuns', WHERE WHAT IT READS IS OF BULK AT MOST 1048576: true; the input reads as it did. -/
def streamRunsUptoRow : OpenClaim := { program := "ytjpjicnfpikdlaa", sum := "ffe79ea28098b294e2adfab2e6e3e09a03d5fe382fd5b72d19ba3a50f5c4886f", func := "wormtub/wormtublaw05.StreamRuns", spec := "streamRuns", unfollowed := true, recurses := true, apart := false, narrowed := true }
def StreamRunsUptoSaid : Prop := streamRunsUptoRow.holds Try.pinned (OpenSpec.upto streamRunsSpec)

/-- 'wormtublaw05.StreamStep', WHERE WHAT IT READS IS OF BULK AT MOST 1048576: true; the input reads as it did. -/
def streamStepUptoRow : OpenClaim := { program := "ytjpjicnfpikdlaa", sum := "ffe79ea28098b294e2adfab2e6e3e09a03d5fe382fd5b72d19ba3a50f5c4886f", func := "wormtub/wormtublaw05.StreamStep", spec := "streamStep", unfollowed := true, recurses := true, apart := false, narrowed := true }
def StreamStepUptoSaid : Prop := streamStepUptoRow.holds Try.pinned (OpenSpec.upto streamStepSpec)

/-- 'wormtublaw05.StreamNarrows', WHERE WHAT IT READS IS OF BULK AT MOST 1048576: true; the input reads as it did. -/
def streamNarrowsUptoRow : OpenClaim := { program := "ytjpjicnfpikdlaa", sum := "ffe79ea28098b294e2adfab2e6e3e09a03d5fe382fd5b72d19ba3a50f5c4886f", func := "wormtub/wormtublaw05.StreamNarrows", spec := "streamNarrows", unfollowed := true, recurses := true, apart := false, narrowed := true }
def StreamNarrowsUptoSaid : Prop := streamNarrowsUptoRow.holds Try.pinned (OpenSpec.upto streamNarrowsSpec)

/-- 'wormtublaw05.StreamWarmer', WHERE WHAT IT READS IS OF BULK AT MOST 1048576: true; the input reads as it did. -/
def streamWarmerUptoRow : OpenClaim := { program := "ytjpjicnfpikdlaa", sum := "ffe79ea28098b294e2adfab2e6e3e09a03d5fe382fd5b72d19ba3a50f5c4886f", func := "wormtub/wormtublaw05.StreamWarmer", spec := "streamWarmer", unfollowed := true, recurses := true, apart := false, narrowed := true }
def StreamWarmerUptoSaid : Prop := streamWarmerUptoRow.holds Try.pinned (OpenSpec.upto streamWarmerSpec)

/-- 'wormtublaw05.StreamRoomy', WHERE WHAT IT READS IS OF BULK AT MOST 1048576: true; the input reads as it did. -/
def streamRoomyUptoRow : OpenClaim := { program := "ytjpjicnfpikdlaa", sum := "ffe79ea28098b294e2adfab2e6e3e09a03d5fe382fd5b72d19ba3a50f5c4886f", func := "wormtub/wormtublaw05.StreamRoomy", spec := "streamRoomy", unfollowed := true, recurses := true, apart := false, narrowed := true }
def StreamRoomyUptoSaid : Prop := streamRoomyUptoRow.holds Try.pinned (OpenSpec.upto streamRoomySpec)

/-- 'wormtublaw05.StreamPlans', WHERE WHAT IT READS IS OF BULK AT MOST 1048576: true; the input reads as it did. -/
def streamPlansUptoRow : OpenClaim := { program := "ytjpjicnfpikdlaa", sum := "ffe79ea28098b294e2adfab2e6e3e09a03d5fe382fd5b72d19ba3a50f5c4886f", func := "wormtub/wormtublaw05.StreamPlans", spec := "streamPlans", unfollowed := true, recurses := true, apart := false, narrowed := true }
def StreamPlansUptoSaid : Prop := streamPlansUptoRow.holds Try.pinned (OpenSpec.upto streamPlansSpec)

end Rows
end Go.Proofs.Ytjpjicnfpikdlaa
