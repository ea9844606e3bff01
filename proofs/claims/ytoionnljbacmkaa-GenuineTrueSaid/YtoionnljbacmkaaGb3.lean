/- genuine: the document's Ask, evaluated. -/
import Derived.Test.YtoionnljbacmkaaGb2

namespace Go.Sx.Gen
open Go Go.Sx Go.Proofs
set_option maxRecDepth 100000

def dsRO : List Nat := [9, 0, 1, 7, 8]
def VRO (n cap : Nat) (wide q bq ba : Int) : List VV := [I q, lV n cap, I wide, I bq, I ba]
def dsRM : List Nat := [11, 10, 9, 0, 1, 7, 8]
def VRM (n cap : Nat) (wide q bq ba i c : Int) : List VV := [I i, I c, I q, lV n cap, I wide, I bq, I ba]
def dsRI : List Nat := [12, 11, 10, 9, 0, 1, 7, 8]
def VRI (n cap : Nat) (wide q bq ba i k c : Int) : List VV := [I k, I i, I c, I q, lV n cap, I wide, I bq, I ba]

def RI (n cap : Nat) (l : Int → Src) (b : Sus) (wide q bq ba i c : Int) : LT := fun lock t h K =>
  (FitP lock h t ⟨3, [0, 1, 2].zip (bL n l b)⟩ (dsRI.zip (VRI n cap wide q bq ba i 0 c)) ∧ i < n ∧ 0 ≤ c ∧ c ≤ 64 * i) ∧ ∀ y : Int, y = c + cnt (dB l wide q i) i.toNat 0 → K .normal (dsRI.zip (VRI n cap wide q bq ba i i y)) ⟨3, [0, 1, 2].zip (bL n l b)⟩

def RM (n cap : Nat) (l : Int → Src) (b : Sus) (wide q bq ba : Int) : LT := fun lock t h K =>
  (FitP lock h t ⟨3, [0, 1, 2].zip (bL n l b)⟩ (dsRM.zip (VRM n cap wide q bq ba 0 0)) ∧ q < (l 0).vl) ∧ ∀ y : Int, y = apartQ n l wide q → K .normal (dsRM.zip (VRM n cap wide q bq ba n y)) ⟨3, [0, 1, 2].zip (bL n l b)⟩

def RO (n cap : Nat) (l : Int → Src) (b : Sus) (wide : Int) : LT := fun lock t h K =>
  (FitP lock h t ⟨3, [0, 1, 2].zip (bL n l b)⟩ (dsRO.zip (VRO n cap wide 0 0 0)) ∧ srcsB n l = true) ∧ (n = 0 → K .normal (dsRO.zip (VRO n cap wide 0 0 0)) ⟨3, [0, 1, 2].zip (bL n l b)⟩) ∧ (0 < n → ∀ x y : Int, (x, y) = bestF (apartQ n l wide) (l 0).vl 0 0 0 → K .normal (dsRO.zip (VRO n cap wide (l 0).vl x y)) ⟨3, [0, 1, 2].zip (bL n l b)⟩)

theorem sI_ev (n cap : Nat) (l : Int → Src) (b : Sus) (wide q bq ba i k c : Int) (X : VEx → List VV → List VB → Prop) : codeE Try.prog (callN Try.prog (tabS (t2 n l b)) noL 10 20) (fun _ => none) true 10 86 0 (loopB 4 (bodyOf Try.prog 20)) (dsRI.zip (VRI n cap wide q bq ba i k c)) ⟨3, [0, 1, 2].zip (bL n l b)⟩ (obs 3 dsRI [0, 1, 2] X) =
  (bif decide (k < i) then
 bif decide ((0 : Int) ≤ i ∧ i < (↑n : Int)) then
 (([] : List Int) = [] ∧ (0 : Int) ≤ (0 : Int) + i ∧ (0 : Int) + i < (↑n : Int)) ∧ bif decide ((0 : Int) ≤ q ∧ q < (↑(l ((0 : Int) + i)).vl : Int)) then
 (∃ i_1, [(0 : Int) + i] = [i_1] ∧ (0 : Int) ≤ i_1 ∧ i_1 < (↑n : Int) ∧ (0 : Int) ≤ (0 : Int) + q ∧ (0 : Int) + q < (↑(l i_1).vl : Int)) ∧ bif decide ((0 : Int) ≤ k ∧ k < (↑n : Int)) then
 (([] : List Int) = [] ∧ (0 : Int) ≤ (0 : Int) + k ∧ (0 : Int) + k < (↑n : Int)) ∧ bif decide ((0 : Int) ≤ q ∧ q < (↑(l ((0 : Int) + k)).vl : Int)) then
 (∃ i, [(0 : Int) + k] = [i] ∧ (0 : Int) ≤ i ∧ i < (↑n : Int) ∧ (0 : Int) ≤ (0 : Int) + q ∧ (0 : Int) + q < (↑(l i).vl : Int)) ∧ bif inK IntKind.i64 (max (at1 (fun i => (l i).lo) [(0 : Int) + i] ((0 : Int) + q)) (at1 (fun i => (l i).lo) [(0 : Int) + k] ((0 : Int) + q)) - min (at1 (fun i => (l i).hi) [(0 : Int) + i] ((0 : Int) + q)) (at1 (fun i => (l i).hi) [(0 : Int) + k] ((0 : Int) + q))) then
 bif decide (max (at1 (fun i => (l i).lo) [(0 : Int) + i] ((0 : Int) + q)) (at1 (fun i => (l i).lo) [(0 : Int) + k] ((0 : Int) + q)) - min (at1 (fun i => (l i).hi) [(0 : Int) + i] ((0 : Int) + q)) (at1 (fun i => (l i).hi) [(0 : Int) + k] ((0 : Int) + q)) > wide) then
 bif inK IntKind.i64 (c + (1 : Int)) then
 bif inK IntKind.i64 (k + (1 : Int)) then
 X VEx.normal [I (k + (1 : Int)), I i, I (c + (1 : Int)), I q, lV n cap, I wide, I bq, I ba] (bL n l b)
 else False
 else False
 else bif inK IntKind.i64 (k + (1 : Int)) then
 X VEx.normal [I (k + (1 : Int)), I i, I c, I q, lV n cap, I wide, I bq, I ba] (bL n l b)
 else False
 else False
 else False
 else False
 else False
 else False
 else X (VEx.exit 4) [I k, I i, I c, I q, lV n cap, I wide, I bq, I ba] (bL n l b)) := by kernel_rfl

theorem sM_ev (n cap : Nat) (l : Int → Src) (b : Sus) (wide q bq ba i c : Int) (X : VEx → List VV → List VB → Prop) : codeE Try.prog (callN Try.prog (tabS (t2 n l b)) noL 10 20) (tabB [(4, RI n cap l b wide q bq ba i c)]) true 10 86 0 (loopB 2 (bodyOf Try.prog 20)) (dsRM.zip (VRM n cap wide q bq ba i c)) ⟨3, [0, 1, 2].zip (bL n l b)⟩ (obs 3 dsRM [0, 1, 2] X) =
  (bif decide (i < (↑n : Int)) then
 (FitP 0 (VH.mk (3) ([0, 1, 2].zip (bL n l b))) (dsRI.zip (VRI n cap wide q bq ba i (0 : Int) c)) (VH.mk (3) ([0, 1, 2].zip (bL n l b))) (dsRI.zip (VRI n cap wide q bq ba i (0 : Int) c)) ∧ i < (↑n : Int) ∧ (0 : Int) ≤ c ∧ c ≤ (64 : Int) * i) ∧ ∀ (y : Int), y = c + cnt (dB l wide q i) i.toNat (0 : Int) → bif inK IntKind.i64 (i + (1 : Int)) then
 X VEx.normal [I (i + (1 : Int)), I y, I q, lV n cap, I wide, I bq, I ba] (bL n l b)
 else False
 else X (VEx.exit 2) [I i, I c, I q, lV n cap, I wide, I bq, I ba] (bL n l b)) := by kernel_rfl

theorem sO_ev (n cap : Nat) (l : Int → Src) (b : Sus) (wide q bq ba : Int) (X : VEx → List VV → List VB → Prop) : codeE Try.prog (callN Try.prog (tabS (t2 n l b)) noL 10 20) (tabB [(2, RM n cap l b wide q bq ba)]) true 10 86 0 (loopB 0 (bodyOf Try.prog 20)) (dsRO.zip (VRO n cap wide q bq ba)) ⟨3, [0, 1, 2].zip (bL n l b)⟩ (obs 3 dsRO [0, 1, 2] X) =
  (bif decide ((↑n : Int) > (0 : Int)) then
 bif decide ((0 : Int) ≤ (0 : Int) ∧ (0 : Int) < (↑n : Int)) then
 (([] : List Int) = [] ∧ (0 : Int) ≤ (0 : Int) + (0 : Int) ∧ (0 : Int) + (0 : Int) < (↑n : Int)) ∧ bif decide (q < (↑(l ((0 : Int) + (0 : Int))).vl : Int)) then
 (FitP 0 (VH.mk (3) ([0, 1, 2].zip (bL n l b))) (dsRM.zip (VRM n cap wide q bq ba (0 : Int) (0 : Int))) (VH.mk (3) ([0, 1, 2].zip (bL n l b))) (dsRM.zip (VRM n cap wide q bq ba (0 : Int) (0 : Int))) ∧ q < (↑(l (0 : Int)).vl : Int)) ∧ ∀ (y : Int), y = apartQ n l wide q → bif decide (y > ba) then
 bif inK IntKind.i64 (q + (1 : Int)) then
 X VEx.normal [I (q + (1 : Int)), lV n cap, I wide, I q, I y] (bL n l b)
 else False
 else bif inK IntKind.i64 (q + (1 : Int)) then
 X VEx.normal [I (q + (1 : Int)), lV n cap, I wide, I bq, I ba] (bL n l b)
 else False
 else X (VEx.exit 0) [I q, lV n cap, I wide, I bq, I ba] (bL n l b)
 else False
 else X (VEx.exit 0) [I q, lV n cap, I wide, I bq, I ba] (bL n l b)) := by kernel_rfl

theorem f20_ev (n cap : Nat) (l : Int → Src) (b : Sus) (wide : Int) (X : VRes → VH → Prop) : spBL Try.prog 20 (tabS (t2 n l b)) [(0, RO n cap l b wide)] 10 20 0 [lV n cap, I wide] (bH n l b) X =
  (((srcA n l = srcA n l ∧ valA n l = valA n l ∧ seenA b = seenA b) ∧ n = n) ∧ bif !srcsB n l then
 X (VRes.ret (VV.tup [I 0, I 0, I 1])) (VH.mk (3) ([(0, srcA n l), (1, valA n l), (2, seenA b)]))
 else bif !inB wide (0 : Int) (1048576 : Int) then
 X (VRes.ret (VV.tup [I 0, I 0, I 2])) (VH.mk (3) ([(0, srcA n l), (1, valA n l), (2, seenA b)]))
 else (FitP 0 (VH.mk (3) ([0, 1, 2].zip (bL n l b))) (dsRO.zip (VRO n cap wide (0 : Int) (0 : Int) (0 : Int))) (VH.mk (3) ([0, 1, 2].zip (bL n l b))) (dsRO.zip (VRO n cap wide (0 : Int) (0 : Int) (0 : Int))) ∧ srcsB n l = true) ∧ (n = 0 → X (VRes.ret (VV.tup [I 0, I 0, I 4])) (VH.mk (3) ([(0, srcA n l), (1, valA n l), (2, seenA b)]))) ∧ (0 < n → ∀ (x y : Int), (x, y) = bestF (apartQ n l wide) (l (0 : Int)).vl (0 : Int) (0 : Int) (0 : Int) → bif decide (y = (0 : Int)) then
 X (VRes.ret (VV.tup [I 0, I 0, I 4])) (VH.mk (3) ([(0, srcA n l), (1, valA n l), (2, seenA b)]))
 else X (VRes.ret (VV.tup [I x, I y, I 0])) (VH.mk (3) ([(0, srcA n l), (1, valA n l), (2, seenA b)])))) := by kernel_rfl


end Go.Sx.Gen
