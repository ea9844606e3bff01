/- genuine: Ask, evaluated. -/
import Derived.Test.YtoionnljbacmkaaGa9

namespace Go.Sx.Gen
open Go Go.Sx Go.Proofs
set_option maxRecDepth 100000

/-- Are two sources told apart by a quantity? -/
def dB (l : Int → Src) (wide q i k : Int) : Bool := decide (max ((l i).lo q) ((l k).lo q) - min ((l i).hi q) ((l k).hi q) > wide)

/-- How many of k numbers from i on. -/
def cnt (p : Int → Bool) : Nat → Int → Int
  | 0, _ => 0
  | k + 1, i => (bif p i then 1 else 0) + cnt p k (i + 1)

def sumI (f : Int → Int) : Nat → Int → Int
  | 0, _ => 0
  | k + 1, i => f i + sumI f k (i + 1)

def bestF (f : Int → Int) : Nat → Int → Int → Int → Int × Int
  | 0, _, bq, ba => (bq, ba)
  | k + 1, q, bq, ba => bif decide (f q > ba) then bestF f k (q + 1) q (f q) else bestF f k (q + 1) bq ba

def apartQ (n : Nat) (l : Int → Src) (wide q : Int) : Int := sumI (fun i => cnt (dB l wide q i) i.toNat 0) n 0

def askF (n : Nat) (l : Int → Src) (wide : Int) : Int × Int × Int :=
  bif srcsB n l then (bif inB wide 0 1048576 then (bif decide (n = 0) then (0, 0, 4) else
    (bif decide ((bestF (apartQ n l wide) (l 0).vl 0 0 0).2 = 0) then (0, 0, 4) else ((bestF (apartQ n l wide) (l 0).vl 0 0 0).1, (bestF (apartQ n l wide) (l 0).vl 0 0 0).2, 0))) else (0, 0, 2)) else (0, 0, 1)

abbrev fA : VV := .func 40 [] [.ptr (.own 3 0)]
def dsO : List Nat := [32, 31, 0, 7, 4, 5]
def VO (n cap : Nat) (Q : Nat) (q bq ba : Int) : List VV := [I q, I Q, lV n cap, fA, I bq, I ba]
def dsM : List Nat := [37, 36, 35, 8, 9, 32, 31, 0, 7, 4, 5]
def VM (n cap : Nat) (Q : Nat) (q bq ba i c : Int) : List VV := [I i, I n, lV n cap, I q, I c, I q, I Q, lV n cap, fA, I bq, I ba]
def dsI : List Nat := [46, 45, 44, 11, 37, 36, 35, 8, 9, 32, 31, 0, 7, 4, 5]
def VI (n cap m cx : Nat) (Q : Nat) (q bq ba i k c : Int) : List VV := [I k, I m, .slice (.el 0 [] 0 0) m cx, .ptr (.own 4 0), I i, I n, lV n cap, I q, I c, I q, I Q, lV n cap, fA, I bq, I ba]

def cW (wide : Int) : VB := .cells [I wide] 3
def cS (l : Int → Src) (i : Int) : VB := .cells [I (l i).cask, I (l i).drawn, I (l i).slo, I (l i).shi, .slice (.el 1 [i] 0 0) (l i).vl (l i).vc] 51
def BO (n : Nat) (l : Int → Src) (b : Sus) (wide : Int) : List VB := [srcA n l, valA n l, seenA b, cW wide]
def BI (n : Nat) (l : Int → Src) (b : Sus) (wide i : Int) : List VB := [srcA n l, valA n l, seenA b, cW wide, cS l i]

def LI (n cap : Nat) (l : Int → Src) (b : Sus) (wide : Int) (Q : Nat) (q bq ba i c : Int) : LT := fun lock t h K =>
  match look t 44 with
  | .slice _ m cx => (FitP lock h t ⟨5, [0, 1, 2, 3, 4].zip (BI n l b wide (0 + i))⟩ (dsI.zip (VI n cap m cx Q q bq ba i 0 c)) ∧ (m : Int) = i ∧ i < n ∧ 0 ≤ c ∧ c ≤ 64 * i) ∧ ∀ y : Int, y = c + cnt (dB l wide q i) i.toNat 0 → K .normal (dsI.zip (VI n cap m cx Q q bq ba i m y)) ⟨5, [0, 1, 2, 3, 4].zip (BI n l b wide (0 + i))⟩
  | _ => False

def LM (n cap : Nat) (l : Int → Src) (b : Sus) (wide : Int) (Q : Nat) (q bq ba : Int) : LT := fun lock t h K =>
  (FitP lock h t ⟨4, [0, 1, 2, 3].zip (BO n l b wide)⟩ (dsM.zip (VM n cap Q q bq ba 0 0)) ∧ q < (l 0).vl) ∧ ∀ y : Int, y = apartQ n l wide q → K .normal (dsM.zip (VM n cap Q q bq ba n y)) ⟨4, [0, 1, 2, 3].zip (BO n l b wide)⟩

def LO (n cap : Nat) (l : Int → Src) (b : Sus) (wide : Int) (Q : Nat) : LT := fun lock t h K =>
  (FitP lock h t ⟨4, [0, 1, 2, 3].zip (BO n l b wide)⟩ (dsO.zip (VO n cap Q 0 0 0)) ∧ srcsB n l = true ∧ 0 < n) ∧ ∀ x y : Int, (x, y) = bestF (apartQ n l wide) Q 0 0 0 → K .normal (dsO.zip (VO n cap Q Q x y)) ⟨4, [0, 1, 2, 3].zip (BO n l b wide)⟩

theorem rI_ev (n cap m cx : Nat) (l : Int → Src) (b : Sus) (wide : Int) (Q : Nat) (q bq ba i k c : Int) (X : VEx → List VV → List VB → Prop) : codeE Try.prog (callN Try.prog (tabS (t2 n l b)) noL 10 20) (fun _ => none) true 10 76 0 (loopB 5 (bodyOf Try.prog 19)) (dsI.zip (VI n cap m cx Q q bq ba i k c)) ⟨5, [0, 1, 2, 3, 4].zip (BI n l b wide (0 + i))⟩ (obs 5 dsI [0, 1, 2, 3, 4] X) =
  (bif decide (k < (↑m : Int)) then
 bif decide ((0 : Int) ≤ k ∧ k < (↑m : Int)) then
 (([] : List Int) = [] ∧ (0 : Int) ≤ (0 : Int) + k ∧ (0 : Int) + k < (↑n : Int)) ∧ bif decide ((0 : Int) ≤ q ∧ q < (↑(l ((0 : Int) + i)).vl : Int)) then
 (∃ i_1, [(0 : Int) + i] = [i_1] ∧ (0 : Int) ≤ i_1 ∧ i_1 < (↑n : Int) ∧ (0 : Int) ≤ (0 : Int) + q ∧ (0 : Int) + q < (↑(l i_1).vl : Int)) ∧ bif decide ((0 : Int) ≤ q ∧ q < (↑(l ((0 : Int) + k)).vl : Int)) then
 (∃ i, [(0 : Int) + k] = [i] ∧ (0 : Int) ≤ i ∧ i < (↑n : Int) ∧ (0 : Int) ≤ (0 : Int) + q ∧ (0 : Int) + q < (↑(l i).vl : Int)) ∧ bif inK IntKind.i64 (max (at1 (fun i => (l i).lo) [(0 : Int) + i] ((0 : Int) + q)) (at1 (fun i => (l i).lo) [(0 : Int) + k] ((0 : Int) + q)) - min (at1 (fun i => (l i).hi) [(0 : Int) + i] ((0 : Int) + q)) (at1 (fun i => (l i).hi) [(0 : Int) + k] ((0 : Int) + q))) then
 bif decide (max (at1 (fun i => (l i).lo) [(0 : Int) + i] ((0 : Int) + q)) (at1 (fun i => (l i).lo) [(0 : Int) + k] ((0 : Int) + q)) - min (at1 (fun i => (l i).hi) [(0 : Int) + i] ((0 : Int) + q)) (at1 (fun i => (l i).hi) [(0 : Int) + k] ((0 : Int) + q)) > wide) then
 bif inK IntKind.i64 (c + (1 : Int)) then
 bif inK IntKind.i64 (k + (1 : Int)) then
 X VEx.normal [I (k + (1 : Int)), I (↑m : Int), VV.slice (VA.el 0 [] (0 : Int) 0) m cx, VV.ptr (VA.own 4 0), I i, I (↑n : Int), lV n cap, I q, I (c + (1 : Int)), I q, I (↑Q : Int), lV n cap, VV.func (40 : FuncId) [] [VV.ptr (VA.own 3 0)], I bq, I ba] [srcA n l, valA n l, seenA b, VB.cells [I wide] (3 : TypeId), VB.cells [I (l ((0 : Int) + i)).cask, I (l ((0 : Int) + i)).drawn, I (l ((0 : Int) + i)).slo, I (l ((0 : Int) + i)).shi, VV.slice (VA.el 1 [(0 : Int) + i] (0 : Int) 0) (l ((0 : Int) + i)).vl (l ((0 : Int) + i)).vc] (51 : TypeId)]
 else False
 else False
 else bif inK IntKind.i64 (k + (1 : Int)) then
 X VEx.normal [I (k + (1 : Int)), I (↑m : Int), VV.slice (VA.el 0 [] (0 : Int) 0) m cx, VV.ptr (VA.own 4 0), I i, I (↑n : Int), lV n cap, I q, I c, I q, I (↑Q : Int), lV n cap, VV.func (40 : FuncId) [] [VV.ptr (VA.own 3 0)], I bq, I ba] [srcA n l, valA n l, seenA b, VB.cells [I wide] (3 : TypeId), VB.cells [I (l ((0 : Int) + i)).cask, I (l ((0 : Int) + i)).drawn, I (l ((0 : Int) + i)).slo, I (l ((0 : Int) + i)).shi, VV.slice (VA.el 1 [(0 : Int) + i] (0 : Int) 0) (l ((0 : Int) + i)).vl (l ((0 : Int) + i)).vc] (51 : TypeId)]
 else False
 else False
 else False
 else False
 else False
 else X (VEx.exit 5) [I k, I (↑m : Int), VV.slice (VA.el 0 [] (0 : Int) 0) m cx, VV.ptr (VA.own 4 0), I i, I (↑n : Int), lV n cap, I q, I c, I q, I (↑Q : Int), lV n cap, VV.func (40 : FuncId) [] [VV.ptr (VA.own 3 0)], I bq, I ba] [srcA n l, valA n l, seenA b, VB.cells [I wide] (3 : TypeId), VB.cells [I (l ((0 : Int) + i)).cask, I (l ((0 : Int) + i)).drawn, I (l ((0 : Int) + i)).slo, I (l ((0 : Int) + i)).shi, VV.slice (VA.el 1 [(0 : Int) + i] (0 : Int) 0) (l ((0 : Int) + i)).vl (l ((0 : Int) + i)).vc] (51 : TypeId)]) := by kernel_rfl

theorem rM_ev (n cap : Nat) (l : Int → Src) (b : Sus) (wide : Int) (Q : Nat) (q bq ba i c : Int) (X : VEx → List VV → List VB → Prop) : codeE Try.prog (callN Try.prog (tabS (t2 n l b)) noL 10 20) (tabB [(5, LI n cap l b wide Q q bq ba i c)]) true 10 76 0 (loopB 3 (bodyOf Try.prog 19)) (dsM.zip (VM n cap Q q bq ba i c)) ⟨4, [0, 1, 2, 3].zip (BO n l b wide)⟩ (obs 4 dsM [0, 1, 2, 3] X) =
  (bif decide (i < (↑n : Int)) then
 bif decide ((0 : Int) ≤ i ∧ i < (↑n : Int)) then
 (([] : List Int) = [] ∧ (0 : Int) ≤ (0 : Int) + i ∧ (0 : Int) + i < (↑n : Int)) ∧ bif decide ((0 : Int) ≤ (0 : Int) ∧ (0 : Int) ≤ i ∧ i ≤ (↑cap : Int)) then
 (FitP 0 (VH.mk (5) ([0, 1, 2, 3, 4].zip (BI n l b wide ((0 : Int) + i)))) (dsI.zip (VI n cap (i - (0 : Int)).toNat (cap - Int.toNat (0 : Int)) Q q bq ba i (0 : Int) c)) (VH.mk (5) ([0, 1, 2, 3, 4].zip (BI n l b wide ((0 : Int) + i)))) (dsI.zip (VI n cap (i - (0 : Int)).toNat (cap - Int.toNat (0 : Int)) Q q bq ba i (0 : Int) c)) ∧ (↑(i - (0 : Int)).toNat : Int) = i ∧ i < (↑n : Int) ∧ (0 : Int) ≤ c ∧ c ≤ (64 : Int) * i) ∧ ∀ (y : Int), y = c + cnt (dB l wide q i) i.toNat (0 : Int) → bif inK IntKind.i64 (i + (1 : Int)) then
 X VEx.normal [I (i + (1 : Int)), I (↑n : Int), lV n cap, I q, I y, I q, I (↑Q : Int), lV n cap, VV.func (40 : FuncId) [] [VV.ptr (VA.own 3 0)], I bq, I ba] [srcA n l, valA n l, seenA b, VB.cells [I wide] (3 : TypeId)]
 else False
 else False
 else False
 else X (VEx.exit 3) [I i, I (↑n : Int), lV n cap, I q, I c, I q, I (↑Q : Int), lV n cap, VV.func (40 : FuncId) [] [VV.ptr (VA.own 3 0)], I bq, I ba] [srcA n l, valA n l, seenA b, VB.cells [I wide] (3 : TypeId)]) := by kernel_rfl

theorem rO_ev (n cap : Nat) (l : Int → Src) (b : Sus) (wide : Int) (Q : Nat) (q bq ba : Int) (X : VEx → List VV → List VB → Prop) : codeE Try.prog (callN Try.prog (tabS (t2 n l b)) noL 10 20) (tabB [(3, LM n cap l b wide Q q bq ba)]) true 10 76 0 (loopB 1 (bodyOf Try.prog 19)) (dsO.zip (VO n cap Q q bq ba)) ⟨4, [0, 1, 2, 3].zip (BO n l b wide)⟩ (obs 4 dsO [0, 1, 2, 3] X) =
  (bif decide (q < (↑Q : Int)) then
 (FitP 0 (VH.mk (4) ([0, 1, 2, 3].zip (BO n l b wide))) (dsM.zip (VM n cap Q q bq ba (0 : Int) (0 : Int))) (VH.mk (4) ([0, 1, 2, 3].zip (BO n l b wide))) (dsM.zip (VM n cap Q q bq ba (0 : Int) (0 : Int))) ∧ q < (↑(l (0 : Int)).vl : Int)) ∧ ∀ (y : Int), y = apartQ n l wide q → bif decide (y > ba) then
 bif inK IntKind.i64 (q + (1 : Int)) then
 X VEx.normal [I (q + (1 : Int)), I (↑Q : Int), lV n cap, VV.func (40 : FuncId) [] [VV.ptr (VA.own 3 0)], I q, I y] [srcA n l, valA n l, seenA b, VB.cells [I wide] (3 : TypeId)]
 else False
 else bif inK IntKind.i64 (q + (1 : Int)) then
 X VEx.normal [I (q + (1 : Int)), I (↑Q : Int), lV n cap, VV.func (40 : FuncId) [] [VV.ptr (VA.own 3 0)], I bq, I ba] [srcA n l, valA n l, seenA b, VB.cells [I wide] (3 : TypeId)]
 else False
 else X (VEx.exit 1) [I q, I (↑Q : Int), lV n cap, VV.func (40 : FuncId) [] [VV.ptr (VA.own 3 0)], I bq, I ba] [srcA n l, valA n l, seenA b, VB.cells [I wide] (3 : TypeId)]) := by kernel_rfl

theorem f19_ev (n cap : Nat) (l : Int → Src) (b : Sus) (wide : Int) (X : VRes → VH → Prop) : spBL Try.prog 19 (tabS (t2 n l b)) [(1, LO n cap l b wide (l 0).vl)] 10 20 0 [lV n cap, I wide] (bH n l b) X =
  (((srcA n l = srcA n l ∧ valA n l = valA n l ∧ seenA b = seenA b) ∧ n = n) ∧ bif !srcsB n l then
 X (VRes.ret (VV.tup [I 0, I 0, I 1])) (VH.mk (4) ([(3, VB.cells [I wide] 3), (0, srcA n l), (1, valA n l), (2, seenA b)]))
 else bif !inB wide (0 : Int) (1048576 : Int) then
 X (VRes.ret (VV.tup [I 0, I 0, I 2])) (VH.mk (4) ([(3, VB.cells [I wide] 3), (0, srcA n l), (1, valA n l), (2, seenA b)]))
 else bif decide ((↑n : Int) = (0 : Int)) then
 X (VRes.ret (VV.tup [I 0, I 0, I 4])) (VH.mk (4) ([(3, VB.cells [I wide] 3), (0, srcA n l), (1, valA n l), (2, seenA b)]))
 else bif decide ((0 : Int) ≤ (0 : Int) ∧ (0 : Int) < (↑n : Int)) then
 (([] : List Int) = [] ∧ (0 : Int) ≤ (0 : Int) + (0 : Int) ∧ (0 : Int) + (0 : Int) < (↑n : Int)) ∧ (FitP 0 (VH.mk (4) ([0, 1, 2, 3].zip (BO n l b wide))) (dsO.zip (VO n cap (l (0 : Int)).vl (0 : Int) (0 : Int) (0 : Int))) (VH.mk (4) ([0, 1, 2, 3].zip (BO n l b wide))) (dsO.zip (VO n cap (l (0 : Int)).vl (0 : Int) (0 : Int) (0 : Int))) ∧ srcsB n l = true ∧ 0 < n) ∧ ∀ (x y : Int), (x, y) = bestF (apartQ n l wide) (l (0 : Int)).vl (0 : Int) (0 : Int) (0 : Int) → bif decide (y = (0 : Int)) then
 X (VRes.ret (VV.tup [I 0, I 0, I 4])) (VH.mk (4) ([(0, srcA n l), (1, valA n l), (2, seenA b), (3, VB.cells [I wide] (3 : TypeId))]))
 else X (VRes.ret (VV.tup [I x, I y, I 0])) (VH.mk (4) ([(0, srcA n l), (1, valA n l), (2, seenA b), (3, VB.cells [I wide] (3 : TypeId))]))
 else False) := by kernel_rfl


end Go.Sx.Gen
