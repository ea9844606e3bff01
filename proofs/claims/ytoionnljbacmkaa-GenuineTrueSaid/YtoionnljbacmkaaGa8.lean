/- genuine: lists of sources, evaluated. -/
import Derived.Test.YtoionnljbacmkaaGa7

namespace Go.Sx.Gen
open Go Go.Sx Go.Proofs
set_option maxRecDepth 100000

abbrev lV (n cap : Nat) : VV := .slice (.el 0 [] 0 0) n cap
def bL (n : Nat) (l : Int → Src) (b : Sus) : List VB := [srcA n l, valA n l, seenA b]
def bH (n : Nat) (l : Int → Src) (b : Sus) : VH := ⟨3, [(0, srcA n l), (1, valA n l), (2, seenA b)]⟩
def B56 (n cap : Nat) (l : Int → Src) (b : Sus) : List VB := [srcA n l, valA n l, seenA b, .cells [lV n cap] 27]

def V56 (n cap : Nat) (i : Int) : List VV := [I i, I n, lV n cap, .func 51 [] [.ptr (.own 3 0)], I 0]
def V21 (n cap : Nat) (i : Int) : List VV := [I i, lV n cap, .bool false]

def srB1 (l : Int → Src) (i : Int) : Bool := srcB (l 0).vl (l i)

/-- The loop of IndexFunc. -/
def L56 (n cap : Nat) (l : Int → Src) (b : Sus) : LT := fun lock t h K =>
  FitP lock h t ⟨4, [0, 1, 2, 3].zip (B56 n cap l b)⟩ ([8, 7, 0, 1, 4].zip (V56 n cap 0)) ∧
  (allB (srB1 l) n 0 = true → K .normal ([8, 7, 0, 1, 4].zip (V56 n cap n)) ⟨4, [0, 1, 2, 3].zip (B56 n cap l b)⟩) ∧
  (allB (srB1 l) n 0 = false → ∀ j : Int, 0 ≤ j → K .ret ([8, 7, 0, 1, 4].zip [I j, I n, lV n cap, .func 51 [] [.ptr (.own 3 0)], I j]) ⟨4, [0, 1, 2, 3].zip (B56 n cap l b)⟩)

def L21 (n cap : Nat) (l : Int → Src) (b : Sus) : LT := fun lock t h K =>
  FitP lock h t ⟨3, [0, 1, 2].zip (bL n l b)⟩ ([3, 0, 2].zip (V21 n cap 0)) ∧
  (allB (srB1 l) n 0 = true → ∀ j : Int, K .normal ([3, 0, 2].zip (V21 n cap j)) ⟨3, [0, 1, 2].zip (bL n l b)⟩) ∧
  (allB (srB1 l) n 0 = false → ∀ j : Int, K .ret ([3, 0, 2].zip (V21 n cap j)) ⟨3, [0, 1, 2].zip (bL n l b)⟩)

/-- IndexFunc as a row. -/
def i56T (n cap : Nat) (l : Int → Src) (b : Sus) : FuncId × Spec1 := (56, fun _ args h K =>
  (h = ⟨4, (3, .cells [lV n cap] 27) :: (bH n l b).bs⟩ ∧ args = [lV n cap, .func 51 [] [.ptr (.own 3 0)]]) ∧ (allB (srB1 l) n 0 = true → K (.ret (I (-1))) h) ∧ (allB (srB1 l) n 0 = false → ∀ j : Int, 0 ≤ j → K (.ret (I j)) h))

theorem r56_ev (n cap : Nat) (l : Int → Src) (b : Sus) (i : Int) (Q : VEx → List VV → List VB → Prop) : codeE Try.prog (callN Try.prog (tabS (t1 n l b)) noL 10 20) (fun _ => none) true 10 19 0 (loopB 0 (bodyOf Try.prog 56)) ([8, 7, 0, 1, 4].zip (V56 n cap i)) ⟨4, [0, 1, 2, 3].zip (B56 n cap l b)⟩ (obs 4 [8, 7, 0, 1, 4] [0, 1, 2, 3] Q) =
  (bif decide (i < (↑n : Int)) then
 bif decide ((0 : Int) ≤ i ∧ i < (↑n : Int)) then
 (([] : List Int) = [] ∧ (0 : Int) ≤ (0 : Int) + i ∧ (0 : Int) + i < (↑n : Int)) ∧ bif !inB (l ((0 : Int) + i)).cask (0 : Int) (1073741824 : Int) then
 Q VEx.ret [I i, I (↑n : Int), lV n cap, VV.func (51 : FuncId) [] [VV.ptr (VA.own 3 0)], I i] [srcA n l, valA n l, seenA b, VB.cells [lV n cap] (27 : TypeId)]
 else bif !inB (l ((0 : Int) + i)).drawn (0 : Int) (65536 : Int) then
 Q VEx.ret [I i, I (↑n : Int), lV n cap, VV.func (51 : FuncId) [] [VV.ptr (VA.own 3 0)], I i] [srcA n l, valA n l, seenA b, VB.cells [lV n cap] (27 : TypeId)]
 else bif !spanB (l ((0 : Int) + i)).slo (l ((0 : Int) + i)).shi (10000 : Int) then
 Q VEx.ret [I i, I (↑n : Int), lV n cap, VV.func (51 : FuncId) [] [VV.ptr (VA.own 3 0)], I i] [srcA n l, valA n l, seenA b, VB.cells [lV n cap] (27 : TypeId)]
 else (valA n l = valA n l ∧ (0 : Int) ≤ (0 : Int) + i ∧ (0 : Int) + i < (↑n : Int) ∧ (l ((0 : Int) + i)).vl = (l ((0 : Int) + i)).vl) ∧ bif !spansB (l ((0 : Int) + i)).vl (l ((0 : Int) + i)).lo (l ((0 : Int) + i)).hi then
 Q VEx.ret [I i, I (↑n : Int), lV n cap, VV.func (51 : FuncId) [] [VV.ptr (VA.own 3 0)], I i] [srcA n l, valA n l, seenA b, VB.cells [lV n cap] (27 : TypeId)]
 else bif decide ((0 : Int) ≤ (0 : Int) ∧ (0 : Int) < (↑n : Int)) then
 (([] : List Int) = [] ∧ (0 : Int) ≤ (0 : Int) + (0 : Int) ∧ (0 : Int) + (0 : Int) < (↑n : Int)) ∧ bif !decide ((↑(l ((0 : Int) + i)).vl : Int) = (↑(l ((0 : Int) + (0 : Int))).vl : Int)) then
 Q VEx.ret [I i, I (↑n : Int), lV n cap, VV.func (51 : FuncId) [] [VV.ptr (VA.own 3 0)], I i] [srcA n l, valA n l, seenA b, VB.cells [lV n cap] (27 : TypeId)]
 else bif inK IntKind.i64 (i + (1 : Int)) then
 Q VEx.normal [I (i + (1 : Int)), I (↑n : Int), lV n cap, VV.func (51 : FuncId) [] [VV.ptr (VA.own 3 0)], I 0] [srcA n l, valA n l, seenA b, VB.cells [lV n cap] (27 : TypeId)]
 else False
 else False
 else False
 else Q (VEx.exit 0) [I i, I (↑n : Int), lV n cap, VV.func (51 : FuncId) [] [VV.ptr (VA.own 3 0)], I 0] [srcA n l, valA n l, seenA b, VB.cells [lV n cap] (27 : TypeId)]) := by kernel_rfl

theorem r21_ev (n cap : Nat) (l : Int → Src) (b : Sus) (i : Int) (Q : VEx → List VV → List VB → Prop) : codeE Try.prog (callN Try.prog (tabS (t1 n l b)) noL 10 20) (fun _ => none) true 10 51 0 (loopB 0 (bodyOf Try.prog 21)) ([3, 0, 2].zip (V21 n cap i)) ⟨3, [0, 1, 2].zip (bL n l b)⟩ (obs 3 [3, 0, 2] [0, 1, 2] Q) =
  (bif decide (i < (↑n : Int)) then
 bif decide ((0 : Int) ≤ i ∧ i < (↑n : Int)) then
 (([] : List Int) = [] ∧ (0 : Int) ≤ (0 : Int) + i ∧ (0 : Int) + i < (↑n : Int)) ∧ bif !inB (l ((0 : Int) + i)).cask (0 : Int) (1073741824 : Int) then
 Q VEx.ret [I i, lV n cap, VV.bool false] (bL n l b)
 else bif !inB (l ((0 : Int) + i)).drawn (0 : Int) (65536 : Int) then
 Q VEx.ret [I i, lV n cap, VV.bool false] (bL n l b)
 else bif !spanB (l ((0 : Int) + i)).slo (l ((0 : Int) + i)).shi (10000 : Int) then
 Q VEx.ret [I i, lV n cap, VV.bool false] (bL n l b)
 else (valA n l = valA n l ∧ (0 : Int) ≤ (0 : Int) + i ∧ (0 : Int) + i < (↑n : Int) ∧ (l ((0 : Int) + i)).vl = (l ((0 : Int) + i)).vl) ∧ bif !spansB (l ((0 : Int) + i)).vl (l ((0 : Int) + i)).lo (l ((0 : Int) + i)).hi then
 Q VEx.ret [I i, lV n cap, VV.bool false] (bL n l b)
 else bif decide ((0 : Int) ≤ (0 : Int) ∧ (0 : Int) < (↑n : Int)) then
 (([] : List Int) = [] ∧ (0 : Int) ≤ (0 : Int) + (0 : Int) ∧ (0 : Int) + (0 : Int) < (↑n : Int)) ∧ bif !decide ((↑(l ((0 : Int) + i)).vl : Int) = (↑(l ((0 : Int) + (0 : Int))).vl : Int)) then
 Q VEx.ret [I i, lV n cap, VV.bool false] (bL n l b)
 else bif inK IntKind.i64 (i + (1 : Int)) then
 Q VEx.normal [I (i + (1 : Int)), lV n cap, VV.bool false] (bL n l b)
 else False
 else False
 else False
 else Q (VEx.exit 0) [I i, lV n cap, VV.bool false] (bL n l b)) := by kernel_rfl

theorem f56_ev (n cap : Nat) (l : Int → Src) (b : Sus) (Q : VRes → VH → Prop) : spBL Try.prog 56 (tabS (t1 n l b)) [(0, L56 n cap l b)] 10 20 0 [lV n cap, .func 51 [] [.ptr (.own 3 0)]] ⟨4, (3, .cells [lV n cap] 27) :: (bH n l b).bs⟩ Q =
  (FitP 0 (VH.mk (4) ([0, 1, 2, 3].zip (B56 n cap l b))) ([8, 7, 0, 1, 4].zip (V56 n cap (0 : Int))) (VH.mk (4) ([0, 1, 2, 3].zip (B56 n cap l b))) ([8, 7, 0, 1, 4].zip (V56 n cap (0 : Int))) ∧ (allB (srB1 l) n (0 : Int) = true → Q (VRes.ret (I (-1))) (VH.mk (4) ([(0, srcA n l), (1, valA n l), (2, seenA b), (3, VB.cells [lV n cap] (27 : TypeId))]))) ∧ (allB (srB1 l) n (0 : Int) = false → ∀ (j : Int), (0 : Int) ≤ j → Q (VRes.ret (I j)) (VH.mk (4) ([(0, srcA n l), (1, valA n l), (2, seenA b), (3, VB.cells [lV n cap] (27 : TypeId))])))) := by kernel_rfl

theorem f21_ev (n cap : Nat) (l : Int → Src) (b : Sus) (Q : VRes → VH → Prop) : spBL Try.prog 21 (tabS (t1 n l b)) [(0, L21 n cap l b)] 10 20 0 [lV n cap] (bH n l b) Q =
  (FitP 0 (VH.mk (3) ([0, 1, 2].zip (bL n l b))) ([3, 0, 2].zip (V21 n cap (0 : Int))) (VH.mk (3) ([0, 1, 2].zip (bL n l b))) ([3, 0, 2].zip (V21 n cap (0 : Int))) ∧ (allB (srB1 l) n (0 : Int) = true → ∀ (j : Int), Q (VRes.ret (VV.bool (decide ((↑n : Int) ≤ (64 : Int))))) (VH.mk (3) ([(0, srcA n l), (1, valA n l), (2, seenA b)]))) ∧ (allB (srB1 l) n (0 : Int) = false → ∀ (j : Int), Q (VRes.ret (VV.bool false)) (VH.mk (3) ([(0, srcA n l), (1, valA n l), (2, seenA b)])))) := by kernel_rfl

theorem f39_ev (n cap : Nat) (l : Int → Src) (b : Sus) (Q : VRes → VH → Prop) : callN Try.prog (tabS [i56T n cap l b]) noL 10 20 0 (.fn 39) [lV n cap] (bH n l b) Q =
  (bif decide ((↑n : Int) ≤ (64 : Int)) then
 ((VH.mk (4) ((3, VB.cells [lV n cap] (27 : TypeId)) :: (bH n l b).bs)) = (VH.mk (4) ((3, VB.cells [lV n cap] (27 : TypeId)) :: (bH n l b).bs)) ∧ [lV n cap, VV.func (51 : FuncId) [] [VV.ptr (VA.own 3 0)]] = [lV n cap, VV.func (51 : FuncId) [] [VV.ptr (VA.own 3 0)]]) ∧ (allB (srB1 l) n (0 : Int) = true → Q (VRes.ret (VV.bool !decide ((-1 : Int) ≥ (0 : Int)))) (VH.mk (4) ([(3, VB.cells [lV n cap] 27), (0, srcA n l), (1, valA n l), (2, seenA b)]))) ∧ (allB (srB1 l) n (0 : Int) = false → ∀ (j : Int), (0 : Int) ≤ j → Q (VRes.ret (VV.bool !decide (j ≥ (0 : Int)))) (VH.mk (4) ([(3, VB.cells [lV n cap] 27), (0, srcA n l), (1, valA n l), (2, seenA b)])))
 else Q (VRes.ret (VV.bool false)) (VH.mk (4) ([(3, VB.cells [lV n cap] 27), (0, srcA n l), (1, valA n l), (2, seenA b)]))) := by kernel_rfl


end Go.Sx.Gen
