/- malt: the document's Harm, evaluated. -/
import Derived.Test.YtdfbhoejljidfaaMd6

namespace Go.Sx.Malt
open Go Go.Sx Go.Proofs
set_option maxRecDepth 100000

def rhT (x i : Int) : Slots := [(4, I x), (5, I i), (1, .ptr (.own 0 0))]

/-- What is seen behind a round of the document's Harm. -/
def rhK (Qn : List VB → List VV → Prop) (Qr : List VV → Prop) : CK := fun e t h => match e with
  | .normal => Qn [h.at 0] [look t 4, look t 5, look t 1]
  | .ret => Qr [look t 2, look t 3]
  | _ => False

/-- The loop as a row. -/
def rhB (a b c d p q : Int) : LT := fun lock t h K => FitP lock h t (rdH a b c d) (rhT a 0) ∧ K .ret [(2, I p), (3, I q)] ⟨1, []⟩

theorem rhr_ev (a b c d x i : Int) (Qn : List VB → List VV → Prop) (Qr : List VV → Prop) : codeE Try.prog (callN Try.prog noSpec noL 10 20) (fun _ => none) true 10 26 0 (loopB 0 (bodyOf Try.prog 26)) (rhT x i) (rdH a b c d) (rhK Qn Qr) =
  (bif decide (x > d) then
 Qr [I i, I 0]
 else bif inK IntKind.i64 ((10000 : Int) - c) then
 bif inK IntKind.i64 (((10000 : Int) - c) * x) then
 bif inK IntKind.i64 (((10000 : Int) - c) * x + (10000 : Int)) then
 bif inK IntKind.i64 (((10000 : Int) - c) * x + (10000 : Int) - (1 : Int)) then
 bif inK IntKind.i64 (quoZ (((10000 : Int) - c) * x + (10000 : Int) - (1 : Int)) (10000 : Int)) then
 bif inK IntKind.i64 (quoZ (((10000 : Int) - c) * x + (10000 : Int) - (1 : Int)) (10000 : Int) + b) then
 bif decide (quoZ (((10000 : Int) - c) * x + (10000 : Int) - (1 : Int)) (10000 : Int) + b ≤ x) then
 Qr [I 0, I 4]
 else bif inK IntKind.i64 (i + (1 : Int)) then
 Qn [VB.cells [I a, I b, I c, I d] (50 : TypeId)] [I (quoZ (((10000 : Int) - c) * x + (10000 : Int) - (1 : Int)) (10000 : Int) + b), I (i + (1 : Int)), VV.ptr (VA.own 0 0)]
 else False
 else False
 else False
 else False
 else False
 else False
 else False) := by kernel_rfl

theorem rharm_ev (a b c d p q : Int) (Q : VV → VV → Prop) : spBL Try.prog 26 (tabS [mill1 27]) [(0, rhB a b c d p q)] 10 20 0 [.agg [I a, I b, I c, I d]] ⟨0, []⟩ (duQ Q) =
  (millB a b c d = true ∧ FitP 0 (rdH a b c d) (rhT a (0 : Int)) (rdH a b c d) (rhT a (0 : Int)) ∧ Q (I p) (I q)) := by kernel_rfl

theorem rharmx_ev (B : Int → Int → Int → Int → Bool) (a b c d : Int) (Q : VV → VV → Prop) : spBL Try.prog 26 (tabS [millT 27 B]) [(0, fun _ _ _ _ => False)] 10 20 0 [.agg [I a, I b, I c, I d]] ⟨0, []⟩ (duQ Q) =
  (bif !B a b c d then
 Q (I 0) (I 1)
 else False) := by kernel_rfl


end Go.Sx.Malt
