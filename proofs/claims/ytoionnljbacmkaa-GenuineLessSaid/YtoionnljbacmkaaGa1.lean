/- genuine: awake. -/
import Derived.Test.YtoionnljbacmkaaSxQ
import Derived.Test.YtoionnljbacmkaaProg

namespace Go.Sx.Gen
open Go Go.Sx Go.Proofs
set_option maxRecDepth 100000

theorem hmix : Try.prog.follows .mixedOrders = true := by kernel_rfl

def isTrue : VRes → VH → Prop := fun r _ => match r with
  | .ret (.bool b) => b = true
  | _ => False

theorem awake_eval : callN Try.prog noSpec noL 40 20 0 (.fn 10) [] ⟨0, []⟩ isTrue = (true = true) := by kernel_rfl

theorem none_good {un : Nat} (m : Nat) : Good Try.prog (callN Try.prog noSpec noL un m) :=
  callN_good hmix (fun _ _ h => by cases h) (fun _ _ _ _ _ _ _ h => by cases h) m

theorem awake_v (h : VH) : CallsV Try.prog 10 [] h (.ret (.bool true)) h := by
  obtain ⟨r, h', h1, h2⟩ := of_eval (none_good 20) awake_eval
  have hr : r = .ret (.bool true) := by
    unfold isTrue at h1
    split at h1
    · rw [h1]
    · exact h1.elim
  subst hr
  exact calls_lift0 h2 rfl rfl
end Go.Sx.Gen
