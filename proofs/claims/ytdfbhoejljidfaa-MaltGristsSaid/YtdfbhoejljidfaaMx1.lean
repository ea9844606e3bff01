import Derived.Test.YtdfbhoejljidfaaSxF
import Derived.Test.YtdfbhoejljidfaaProg
/- malt: awake. -/

namespace Go.Sx.Malt
open Go Go.Sx Go.Proofs

theorem hmix : Try.prog.follows .mixedOrders = true := by kernel_rfl

def playT : List (FuncId × Spec1) := [(12, spD Try.prog 12 noSpec noL 10 20)]

theorem playT_ok : ∀ x ∈ playT, SpOk Try.prog x.1 x.2 := by
  intro x hx
  simp only [playT, List.mem_singleton] at hx
  subst hx
  exact spD_ok hmix (fun _ _ h => by cases h)

def isTrue : VRes → VH → Prop := fun r _ => match r with
  | .ret (.bool b) => b = true
  | _ => False

theorem awake_eval : callN Try.prog (tabS playT) noL 40 20 0 (.fn 11) [] ⟨0, []⟩ isTrue = (true = true) := by kernel_rfl

theorem awake_v (h : VH) : CallsV Try.prog 11 [] h (.ret (.bool true)) h := by
  obtain ⟨r, h', h1, h2⟩ := of_eval (tab_good hmix playT_ok 20) awake_eval
  have hr : r = .ret (.bool true) := by
    unfold isTrue at h1
    split at h1
    · rw [h1]
    · exact h1.elim
  subst hr
  exact calls_lift0 h2 rfl rfl
end Go.Sx.Malt
