/- malt: contracts of the small functions. -/
import Derived.Test.YtdfbhoejljidfaaMx2
import Derived.Test.YtdfbhoejljidfaaMx1
import Derived.Test.YtdfbhoejljidfaaMl2

namespace Go.Sx.Malt
open Go Go.Sx Go.Proofs

/-- First, Made, Drawn, Limit. -/
def millB (a b c d : Int) : Bool := decide ((0 ≤ a ∧ a ≤ 1073741824) ∧ (0 ≤ b ∧ b ≤ 1073741824) ∧ (0 ≤ c ∧ c ≤ 10000) ∧ (0 ≤ d ∧ d ≤ 1073741824))

theorem ret_b {x y : Bool} (h : x = true ↔ y = true) : VRes.ret (.bool x) = .ret (.bool y) := by
  rw [Bool.eq_iff_iff.2 h]

theorem good0 : Good Try.prog (callN Try.prog noSpec noL 10 20) := callN_good hmix (fun _ _ h => by cases h) (fun _ _ _ _ _ _ _ h => by cases h) 20

/-- A function of numbers alone. -/
theorem pure_v {f : FuncId} {args : List VV} {r : VRes} (hK : callN Try.prog noSpec noL 10 20 0 (.fn f) args ⟨0, []⟩ (fun x _ => x = r)) (ha : belL 0 args = true) (hr : r.bel 0 = true) (h : VH) : CallsV Try.prog f args h r h := by
  obtain ⟨r', h', h1, h2⟩ := of_callN good0 hK
  subst h1
  exact calls_lift0 h2 ha hr

theorem step_v (k a b : Int) (h : VH) : CallsV Try.prog 57 [.agg [I k, I a, I b]] h (.ret (.bool (stB k a b))) h := by
  refine pure_v ?_ rfl rfl h
  rw [step_ev k a b (fun x => x = _)]
  repeat' (refine cond_d (fun _ => ?_) (fun _ => ?_))
  all_goals (refine ret_b ?_; simp only [stB, decide_eq_true_eq, Bool.false_eq_true, false_iff]; omega)

theorem rstep_v (k a b : Int) (h : VH) : CallsV Try.prog 20 [.agg [I k, I a, I b]] h (.ret (.bool (stB k a b))) h := by
  refine pure_v ?_ rfl rfl h
  rw [rstep_ev k a b (fun x => x = _)]
  repeat' (refine cond_d (fun _ => ?_) (fun _ => ?_))
  all_goals (refine ret_b ?_; simp only [stB, decide_eq_true_eq, Bool.false_eq_true, false_iff]; omega)

theorem malt_v (a b c d e f : Int) (h : VH) : CallsV Try.prog 34 [.agg [I a, I b, I c, I d, I e, I f]] h (.ret (.bool (mB a b c d e f))) h := by
  refine pure_v ?_ rfl rfl h
  rw [malt_ev a b c d e f (fun x => x = _)]
  repeat' (refine cond_d (fun _ => ?_) (fun _ => ?_))
  all_goals (refine ret_b ?_; simp only [mB, decide_eq_true_eq, Bool.false_eq_true, false_iff]; omega)

theorem rmalt_v (a b c d e f : Int) (h : VH) : CallsV Try.prog 18 [.agg [I a, I b, I c, I d, I e, I f]] h (.ret (.bool (mB a b c d e f))) h := by
  refine pure_v ?_ rfl rfl h
  rw [rmalt_ev a b c d e f (fun x => x = _)]
  repeat' (refine cond_d (fun _ => ?_) (fun _ => ?_))
  all_goals (refine ret_b ?_; simp only [mB, decide_eq_true_eq, Bool.false_eq_true, false_iff]; omega)

end Go.Sx.Malt
