/- genuine: lists of spans, evaluated. -/
import Derived.Test.YtoionnljbacmkaaGa4

namespace Go.Sx.Gen
open Go Go.Sx Go.Proofs
set_option maxRecDepth 100000

def spB1 (lo hi : Int → Int) (j : Int) : Bool := spanB (lo j) (hi j) 1048576

def V57 (ix : List Int) (len cap : Nat) (i : Int) : List VV := [I i, I len, .slice (.el 0 ix 0 0) len cap, .func 54 [] [], I 0]
def V42 (ix : List Int) (len cap : Nat) (i : Int) : List VV := [I i, .slice (.el 0 ix 0 0) len cap, .bool false]

/-- The loop of IndexFunc. -/
def L57 (ok : List Int → Int → Prop) (lo hi : List Int → Int → Int) (ix : List Int) (len cap : Nat) : LT := fun lock t h K =>
  FitP lock h t ⟨1, [(0, spanA ok lo hi)]⟩ ([8, 7, 0, 1, 4].zip (V57 ix len cap 0)) ∧
  (allB (spB1 (lo ix) (hi ix)) len 0 = true → K .normal ([8, 7, 0, 1, 4].zip (V57 ix len cap len)) ⟨1, [(0, spanA ok lo hi)]⟩) ∧
  (allB (spB1 (lo ix) (hi ix)) len 0 = false → ∀ j : Int, 0 ≤ j → K .ret ([8, 7, 0, 1, 4].zip [I j, I len, .slice (.el 0 ix 0 0) len cap, .func 54 [] [], I j]) ⟨1, [(0, spanA ok lo hi)]⟩)

def L42 (ok : List Int → Int → Prop) (lo hi : List Int → Int → Int) (ix : List Int) (len cap : Nat) : LT := fun lock t h K =>
  FitP lock h t ⟨1, [(0, spanA ok lo hi)]⟩ ([3, 0, 2].zip (V42 ix len cap 0)) ∧
  ((len ≤ 12 → allB (spB1 (lo ix) (hi ix)) len 0 = true) → ∀ j : Int, K .normal ([3, 0, 2].zip (V42 ix len cap j)) ⟨1, [(0, spanA ok lo hi)]⟩) ∧
  (allB (spB1 (lo ix) (hi ix)) len 0 = false → ∀ j : Int, K .ret ([3, 0, 2].zip (V42 ix len cap j)) ⟨1, [(0, spanA ok lo hi)]⟩)

/-- IndexFunc as a row. -/
def i57T (ok : List Int → Int → Prop) (lo hi : List Int → Int → Int) (ix : List Int) (len cap : Nat) : FuncId × Spec1 := (57, fun _ args h K =>
  (h = ⟨1, [(0, spanA ok lo hi)]⟩ ∧ args = [.slice (.el 0 ix 0 0) len cap, .func 54 [] []]) ∧ (allB (spB1 (lo ix) (hi ix)) len 0 = true → K (.ret (I (-1))) h) ∧ (allB (spB1 (lo ix) (hi ix)) len 0 = false → ∀ j : Int, 0 ≤ j → K (.ret (I j)) h))

theorem idx57_ev (ok : List Int → Int → Prop) (lo hi : List Int → Int → Int) (ix : List Int) (i : Int) (len cap : Nat) (Q : VEx → List VV → List VB → Prop) : codeE Try.prog (callN Try.prog (tabS numT) noL 10 20) (fun _ => none) true 10 19 0 (loopB 0 (bodyOf Try.prog 57)) ([8, 7, 0, 1, 4].zip (V57 ix len cap i)) ⟨1, [0].zip [spanA ok lo hi]⟩ (obs 1 [8, 7, 0, 1, 4] [0] Q) =
  (bif decide (i < (↑len : Int)) then
 bif decide ((0 : Int) ≤ i ∧ i < (↑len : Int)) then
 ok ix ((0 : Int) + i) ∧ bif !spanB (lo ix ((0 : Int) + i)) (hi ix ((0 : Int) + i)) (1048576 : Int) then
 Q VEx.ret [I i, I (↑len : Int), VV.slice (VA.el 0 ix (0 : Int) 0) len cap, VV.func (54 : FuncId) [] [], I i] [VB.arr 2 ok fun ix j => [I (lo ix j), I (hi ix j)]]
 else bif inK IntKind.i64 (i + (1 : Int)) then
 Q VEx.normal [I (i + (1 : Int)), I (↑len : Int), VV.slice (VA.el 0 ix (0 : Int) 0) len cap, VV.func (54 : FuncId) [] [], I 0] [VB.arr 2 ok fun ix j => [I (lo ix j), I (hi ix j)]]
 else False
 else False
 else Q (VEx.exit 0) [I i, I (↑len : Int), VV.slice (VA.el 0 ix (0 : Int) 0) len cap, VV.func (54 : FuncId) [] [], I 0] [VB.arr 2 ok fun ix j => [I (lo ix j), I (hi ix j)]]) := by kernel_rfl

theorem spans42_ev (ok : List Int → Int → Prop) (lo hi : List Int → Int → Int) (ix : List Int) (i : Int) (len cap : Nat) (Q : VEx → List VV → List VB → Prop) : codeE Try.prog (callN Try.prog (tabS numT) noL 10 20) (fun _ => none) true 10 23 0 (loopB 0 (bodyOf Try.prog 42)) ([3, 0, 2].zip (V42 ix len cap i)) ⟨1, [0].zip [spanA ok lo hi]⟩ (obs 1 [3, 0, 2] [0] Q) =
  (bif decide (i < (↑len : Int)) then
 bif decide (i ≤ (12 : Int)) then
 bif decide ((0 : Int) ≤ i ∧ i < (↑len : Int)) then
 ok ix ((0 : Int) + i) ∧ bif !spanB (lo ix ((0 : Int) + i)) (hi ix ((0 : Int) + i)) (1048576 : Int) then
 Q VEx.ret [I i, VV.slice (VA.el 0 ix (0 : Int) 0) len cap, VV.bool false] [VB.arr 2 ok fun ix j => [I (lo ix j), I (hi ix j)]]
 else bif inK IntKind.i64 (i + (1 : Int)) then
 Q VEx.normal [I (i + (1 : Int)), VV.slice (VA.el 0 ix (0 : Int) 0) len cap, VV.bool false] [VB.arr 2 ok fun ix j => [I (lo ix j), I (hi ix j)]]
 else False
 else False
 else Q (VEx.exit 0) [I i, VV.slice (VA.el 0 ix (0 : Int) 0) len cap, VV.bool false] [VB.arr 2 ok fun ix j => [I (lo ix j), I (hi ix j)]]
 else Q (VEx.exit 0) [I i, VV.slice (VA.el 0 ix (0 : Int) 0) len cap, VV.bool false] [VB.arr 2 ok fun ix j => [I (lo ix j), I (hi ix j)]]) := by kernel_rfl

theorem f57_ev (ok : List Int → Int → Prop) (lo hi : List Int → Int → Int) (ix : List Int) (len cap : Nat) (Q : VRes → VH → Prop) : spBL Try.prog 57 (tabS numT) [(0, L57 ok lo hi ix len cap)] 10 20 0 [.slice (.el 0 ix 0 0) len cap, .func 54 [] []] ⟨1, [(0, spanA ok lo hi)]⟩ Q =
  (FitP 0 (VH.mk (1) [(0, spanA ok lo hi)]) ([8, 7, 0, 1, 4].zip (V57 ix len cap (0 : Int))) (VH.mk (1) [(0, spanA ok lo hi)]) ([8, 7, 0, 1, 4].zip (V57 ix len cap (0 : Int))) ∧ (allB (spB1 (lo ix) (hi ix)) len (0 : Int) = true → Q (VRes.ret (I (-1))) (VH.mk (1) [(0, VB.arr 2 ok fun ix j => [I (lo ix j), I (hi ix j)])])) ∧ (allB (spB1 (lo ix) (hi ix)) len (0 : Int) = false → ∀ (j : Int), (0 : Int) ≤ j → Q (VRes.ret (I j)) (VH.mk (1) [(0, VB.arr 2 ok fun ix j => [I (lo ix j), I (hi ix j)])]))) := by kernel_rfl

theorem f42_ev (ok : List Int → Int → Prop) (lo hi : List Int → Int → Int) (ix : List Int) (len cap : Nat) (Q : VRes → VH → Prop) : spBL Try.prog 42 (tabS numT) [(0, L42 ok lo hi ix len cap)] 10 20 0 [.slice (.el 0 ix 0 0) len cap] ⟨1, [(0, spanA ok lo hi)]⟩ Q =
  (FitP 0 (VH.mk (1) [(0, spanA ok lo hi)]) ([3, 0, 2].zip (V42 ix len cap (0 : Int))) (VH.mk (1) [(0, spanA ok lo hi)]) ([3, 0, 2].zip (V42 ix len cap (0 : Int))) ∧ ((len ≤ 12 → allB (spB1 (lo ix) (hi ix)) len (0 : Int) = true) → ∀ (j : Int), Q (VRes.ret (VV.bool (decide ((↑len : Int) ≤ (12 : Int))))) (VH.mk (1) [(0, VB.arr 2 ok fun ix j => [I (lo ix j), I (hi ix j)])])) ∧ (allB (spB1 (lo ix) (hi ix)) len (0 : Int) = false → ∀ (j : Int), Q (VRes.ret (VV.bool false)) (VH.mk (1) [(0, VB.arr 2 ok fun ix j => [I (lo ix j), I (hi ix j)])]))) := by kernel_rfl

theorem f45_ev (ok : List Int → Int → Prop) (lo hi : List Int → Int → Int) (ix : List Int) (len cap : Nat) (Q : VRes → VH → Prop) : callN Try.prog (tabS [i57T ok lo hi ix len cap]) noL 10 20 0 (.fn 45) [.slice (.el 0 ix 0 0) len cap] ⟨1, [(0, spanA ok lo hi)]⟩ Q =
  (bif decide ((↑len : Int) ≤ (12 : Int)) then
 ((VH.mk (1) [(0, spanA ok lo hi)]) = (VH.mk (1) [(0, spanA ok lo hi)]) ∧ [VV.slice (VA.el 0 ix (0 : Int) 0) len cap, VV.func 54 [] []] = [VV.slice (VA.el 0 ix (0 : Int) 0) len cap, VV.func (54 : FuncId) [] []]) ∧ (allB (spB1 (lo ix) (hi ix)) len (0 : Int) = true → Q (VRes.ret (VV.bool !decide ((-1 : Int) ≥ (0 : Int)))) (VH.mk (1) [(0, VB.arr 2 ok fun ix j => [I (lo ix j), I (hi ix j)])])) ∧ (allB (spB1 (lo ix) (hi ix)) len (0 : Int) = false → ∀ (j : Int), (0 : Int) ≤ j → Q (VRes.ret (VV.bool !decide (j ≥ (0 : Int)))) (VH.mk (1) [(0, VB.arr 2 ok fun ix j => [I (lo ix j), I (hi ix j)])]))
 else Q (VRes.ret (VV.bool false)) (VH.mk (1) [(0, VB.arr 2 ok fun ix j => [I (lo ix j), I (hi ix j)])])) := by kernel_rfl


end Go.Sx.Gen
