/- malt: Harm, evaluated. -/
import Derived.Test.YtdfbhoejljidfaaMdA

namespace Go.Sx.Malt
open Go Go.Sx Go.Proofs
set_option maxRecDepth 100000

/-- The loop of air in Harm, by the way that led to it. -/
def hLB (a b c d p q : Int) : LT := fun lock t h K => match h.at 5 with
  | .loop _ _ tt _ _ _ _ => match look tt 23, look tt 16 with
    | .bool _, _ => hLk 0 a b c d p q lock t h K
    | _, .bool _ => hLk 1 a b c d p q lock t h K
    | _, _ => hLk 2 a b c d p q lock t h K
  | _ => False

theorem harm_ev (a b c d p q : Int) (Q : VV → VV → Prop) : callN Try.prog (tabS [mill1 45, (59, spBL Try.prog 59 noSpec [(0, hLB a b c d p q)] 10 20)]) noL 10 20 0 (.fn 25) [.agg [I a, I b, I c, I d]] ⟨0, []⟩ (duQ Q) =
  (millB a b c d = true ∧ bif decide (c = (0 : Int)) then
 bif decide (b > (0 : Int)) then
 bif decide (a ≤ d) then
 bif inK IntKind.i64 (d - a) then
 bif decide (b = (0 : Int)) then
 False
 else bif inK IntKind.i64 (quoZ (d - a) b) then
 bif inK IntKind.i64 (quoZ (d - a) b + (1 : Int)) then
 Q (I (quoZ (d - a) b + (1 : Int))) (I 0)
 else False
 else False
 else False
 else FitP 0 (hH 0 a b c d (-1 : Int)) (hT (0 : Int) a) (hH 0 a b c d (-1 : Int)) (hT (0 : Int) a) ∧ (q = (0 : Int) → Q (I p) (I 0) ∧ Q (I p) (I 0)) ∧ (p = (0 : Int) ∧ q = (4 : Int) → Q (I 0) (I 4) ∧ Q (I 0) (I 4))
 else FitP 0 (hH 1 a b c d (-1 : Int)) (hT (0 : Int) a) (hH 1 a b c d (-1 : Int)) (hT (0 : Int) a) ∧ (q = (0 : Int) → Q (I p) (I 0) ∧ Q (I p) (I 0)) ∧ (p = (0 : Int) ∧ q = (4 : Int) → Q (I 0) (I 4) ∧ Q (I 0) (I 4))
 else FitP 0 (hH 2 a b c d (-1 : Int)) (hT (0 : Int) a) (hH 2 a b c d (-1 : Int)) (hT (0 : Int) a) ∧ (q = (0 : Int) → Q (I p) (I 0) ∧ Q (I p) (I 0)) ∧ (p = (0 : Int) ∧ q = (4 : Int) → Q (I 0) (I 4) ∧ Q (I 0) (I 4))) := by kernel_rfl

theorem harmx_ev (B : Int → Int → Int → Int → Bool) (a b c d : Int) (Q : VV → VV → Prop) : callN Try.prog (tabS [millT 45 B, (59, fun _ _ _ _ => False)]) noL 10 20 0 (.fn 25) [.agg [I a, I b, I c, I d]] ⟨0, []⟩ (duQ Q) =
  (bif !B a b c d then
 Q (I 0) (I 1)
 else bif decide (c = (0 : Int)) then
 bif decide (b > (0 : Int)) then
 bif decide (a ≤ d) then
 bif inK IntKind.i64 (d - a) then
 bif decide (b = (0 : Int)) then
 False
 else bif inK IntKind.i64 (quoZ (d - a) b) then
 bif inK IntKind.i64 (quoZ (d - a) b + (1 : Int)) then
 Q (I (quoZ (d - a) b + (1 : Int))) (I 0)
 else False
 else False
 else False
 else False
 else False
 else False) := by kernel_rfl


end Go.Sx.Malt
