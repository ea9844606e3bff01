/- genuine: the law GenuineApart, evaluated. -/
import Derived.Test.YtoionnljbacmkaaGc3

namespace Go.Sx.Gen
open Go Go.Sx Go.Proofs
set_option maxRecDepth 100000

/-- Ask as a row, its results by names. -/
def askU (f : FuncId) (n : Nat) (l : Int → Src) (b : Sus) : FuncId × Spec1 := (f, fun _ args h K => match args with
  | [.slice (.el 0 [] 0 0) m c, .int .i64 wide] => ((h.at 0 = srcA n l ∧ h.at 1 = valA n l ∧ h.at 2 = seenA b) ∧ m = n ∧ n ≤ c) ∧ ∀ x y z : Int, askF n l wide = (x, y, z) → K (.ret (.tup [I x, I y, I z])) h
  | _ => False)

def t3 (n : Nat) (l : Int → Src) (b : Sus) : List (FuncId × Spec1) := awT :: askU 19 n l b :: t2 n l b

def dsA0 : List Nat := [10, 0, 1, 2, 7, 8, 9]
def VA0 (n cap : Nat) (wide less q m e k : Int) : List VV := [I k, lV n cap, I wide, I less, I q, I m, I e]
def dsA1 : List Nat := [12, 11, 10, 0, 1, 2, 7, 8, 9]
def VA1 (n cap : Nat) (wide less q m e k i c : Int) : List VV := [I i, I c, I k, lV n cap, I wide, I less, I q, I m, I e]
def dsA2 : List Nat := [13, 12, 11, 10, 0, 1, 2, 7, 8, 9]
def VA2 (n cap : Nat) (wide less q m e k i j c : Int) : List VV := [I j, I i, I c, I k, lV n cap, I wide, I less, I q, I m, I e]

def A2 (n cap : Nat) (l : Int → Src) (b : Sus) (wide less q m e k i c : Int) : LT := fun lock t h K =>
  (FitP lock h t ⟨3, [0, 1, 2].zip (bL n l b)⟩ (dsA2.zip (VA2 n cap wide less q m e k i 0 c)) ∧ i < n ∧ 0 ≤ c ∧ c ≤ 64 * i) ∧ ∀ y : Int, y = c + cnt (dB l wide k i) i.toNat 0 → K .normal (dsA2.zip (VA2 n cap wide less q m e k i i y)) ⟨3, [0, 1, 2].zip (bL n l b)⟩

def A1 (n cap : Nat) (l : Int → Src) (b : Sus) (wide less q m e k : Int) : LT := fun lock t h K =>
  (FitP lock h t ⟨3, [0, 1, 2].zip (bL n l b)⟩ (dsA1.zip (VA1 n cap wide less q m e k 0 0)) ∧ k < (l 0).vl) ∧ ∀ y : Int, y = apartQ n l wide k → K .normal (dsA1.zip (VA1 n cap wide less q m e k n y)) ⟨3, [0, 1, 2].zip (bL n l b)⟩

def A0 (n cap : Nat) (l : Int → Src) (b : Sus) (wide less q m e : Int) : LT := fun lock t h K =>
  (FitP lock h t ⟨3, [0, 1, 2].zip (bL n l b)⟩ (dsA0.zip (VA0 n cap wide less q m e 0)) ∧ srcsB n l = true ∧ inB wide 0 1048576 = true ∧ askF n l wide = (q, m, e)) ∧ ∀ j : Int, K .normal (dsA0.zip (VA0 n cap wide less q m e j)) ⟨3, [0, 1, 2].zip (bL n l b)⟩

def A0r (n cap : Nat) (l : Int → Src) (b : Sus) (wide less : Int) : LT := fun lock t h K =>
  match look t 7, look t 8, look t 9 with
  | .int .i64 q, .int .i64 m, .int .i64 e => A0 n cap l b wide less q m e lock t h K
  | _, _, _ => False

theorem u2_ev (n cap : Nat) (l : Int → Src) (b : Sus) (wide less q m e k i j c : Int) (X : VEx → List VV → List VB → Prop) : codeE Try.prog (callN Try.prog (tabS (t3 n l b)) noL 10 20) (fun _ => none) true 10 198 0 (loopB 4 (bodyOf Try.prog 8)) (dsA2.zip (VA2 n cap wide less q m e k i j c)) ⟨3, [0, 1, 2].zip (bL n l b)⟩ (obs 3 dsA2 [0, 1, 2] X) =
  (bif decide (j < i) then
 bif decide ((0 : Int) ≤ i ∧ i < (↑n : Int)) then
 (([] : List Int) = [] ∧ (0 : Int) ≤ (0 : Int) + i ∧ (0 : Int) + i < (↑n : Int)) ∧ bif decide ((0 : Int) ≤ k ∧ k < (↑(l ((0 : Int) + i)).vl : Int)) then
 (∃ i_1, [(0 : Int) + i] = [i_1] ∧ (0 : Int) ≤ i_1 ∧ i_1 < (↑n : Int) ∧ (0 : Int) ≤ (0 : Int) + k ∧ (0 : Int) + k < (↑(l i_1).vl : Int)) ∧ bif decide ((0 : Int) ≤ j ∧ j < (↑n : Int)) then
 (([] : List Int) = [] ∧ (0 : Int) ≤ (0 : Int) + j ∧ (0 : Int) + j < (↑n : Int)) ∧ bif decide ((0 : Int) ≤ k ∧ k < (↑(l ((0 : Int) + j)).vl : Int)) then
 (∃ i, [(0 : Int) + j] = [i] ∧ (0 : Int) ≤ i ∧ i < (↑n : Int) ∧ (0 : Int) ≤ (0 : Int) + k ∧ (0 : Int) + k < (↑(l i).vl : Int)) ∧ bif inK IntKind.i64 (at1 (fun i => (l i).hi) [(0 : Int) + j] ((0 : Int) + k) + wide) then
 bif decide (at1 (fun i => (l i).lo) [(0 : Int) + i] ((0 : Int) + k) > at1 (fun i => (l i).hi) [(0 : Int) + j] ((0 : Int) + k) + wide) then
 bif inK IntKind.i64 (c + (1 : Int)) then
 bif inK IntKind.i64 (j + (1 : Int)) then
 X VEx.normal [I (j + (1 : Int)), I i, I (c + (1 : Int)), I k, lV n cap, I wide, I less, I q, I m, I e] (bL n l b)
 else False
 else False
 else bif inK IntKind.i64 (at1 (fun i => (l i).hi) [(0 : Int) + i] ((0 : Int) + k) + wide) then
 bif decide (at1 (fun i => (l i).lo) [(0 : Int) + j] ((0 : Int) + k) > at1 (fun i => (l i).hi) [(0 : Int) + i] ((0 : Int) + k) + wide) then
 bif inK IntKind.i64 (c + (1 : Int)) then
 bif inK IntKind.i64 (j + (1 : Int)) then
 X VEx.normal [I (j + (1 : Int)), I i, I (c + (1 : Int)), I k, lV n cap, I wide, I less, I q, I m, I e] (bL n l b)
 else False
 else False
 else bif inK IntKind.i64 (j + (1 : Int)) then
 X VEx.normal [I (j + (1 : Int)), I i, I c, I k, lV n cap, I wide, I less, I q, I m, I e] (bL n l b)
 else False
 else False
 else False
 else False
 else False
 else False
 else False
 else X (VEx.exit 4) [I j, I i, I c, I k, lV n cap, I wide, I less, I q, I m, I e] (bL n l b)) := by kernel_rfl

theorem u1_ev (n cap : Nat) (l : Int → Src) (b : Sus) (wide less q m e k i c : Int) (X : VEx → List VV → List VB → Prop) : codeE Try.prog (callN Try.prog (tabS (t3 n l b)) noL 10 20) (tabB [(4, A2 n cap l b wide less q m e k i c)]) true 10 198 0 (loopB 2 (bodyOf Try.prog 8)) (dsA1.zip (VA1 n cap wide less q m e k i c)) ⟨3, [0, 1, 2].zip (bL n l b)⟩ (obs 3 dsA1 [0, 1, 2] X) =
  (bif decide (i < (↑n : Int)) then
 (FitP 0 (VH.mk (3) ([0, 1, 2].zip (bL n l b))) (dsA2.zip (VA2 n cap wide less q m e k i (0 : Int) c)) (VH.mk (3) ([0, 1, 2].zip (bL n l b))) (dsA2.zip (VA2 n cap wide less q m e k i (0 : Int) c)) ∧ i < (↑n : Int) ∧ (0 : Int) ≤ c ∧ c ≤ (64 : Int) * i) ∧ ∀ (y : Int), y = c + cnt (dB l wide k i) i.toNat (0 : Int) → bif inK IntKind.i64 (i + (1 : Int)) then
 X VEx.normal [I (i + (1 : Int)), I y, I k, lV n cap, I wide, I less, I q, I m, I e] (bL n l b)
 else False
 else X (VEx.exit 2) [I i, I c, I k, lV n cap, I wide, I less, I q, I m, I e] (bL n l b)) := by kernel_rfl

theorem u0_ev (n cap : Nat) (l : Int → Src) (b : Sus) (wide less q m e k : Int) (X : VEx → List VV → List VB → Prop) : codeE Try.prog (callN Try.prog (tabS (t3 n l b)) noL 10 20) (tabB [(2, A1 n cap l b wide less q m e k)]) true 10 198 0 (loopB 0 (bodyOf Try.prog 8)) (dsA0.zip (VA0 n cap wide less q m e k)) ⟨3, [0, 1, 2].zip (bL n l b)⟩ (obs 3 dsA0 [0, 1, 2] X) =
  (bif decide ((↑n : Int) > (0 : Int)) then
 bif decide ((0 : Int) ≤ (0 : Int) ∧ (0 : Int) < (↑n : Int)) then
 (([] : List Int) = [] ∧ (0 : Int) ≤ (0 : Int) + (0 : Int) ∧ (0 : Int) + (0 : Int) < (↑n : Int)) ∧ bif decide (k < (↑(l ((0 : Int) + (0 : Int))).vl : Int)) then
 (FitP 0 (VH.mk (3) ([0, 1, 2].zip (bL n l b))) (dsA1.zip (VA1 n cap wide less q m e k (0 : Int) (0 : Int))) (VH.mk (3) ([0, 1, 2].zip (bL n l b))) (dsA1.zip (VA1 n cap wide less q m e k (0 : Int) (0 : Int))) ∧ k < (↑(l (0 : Int)).vl : Int)) ∧ ∀ (y : Int), y = apartQ n l wide k → bif !decide (e = (0 : Int)) then
 bif decide (y > (0 : Int)) then
 X VEx.ret [I k, lV n cap, I wide, I less, I q, I m, I e] (bL n l b)
 else bif decide (e = (0 : Int)) then
 bif decide (y > m) then
 X VEx.ret [I k, lV n cap, I wide, I less, I q, I m, I e] (bL n l b)
 else bif decide (k < q) then
 bif decide (y = m) then
 X VEx.ret [I k, lV n cap, I wide, I less, I q, I m, I e] (bL n l b)
 else bif decide (k = q) then
 bif !decide (y = m) then
 X VEx.ret [I k, lV n cap, I wide, I less, I q, I m, I e] (bL n l b)
 else bif inK IntKind.i64 (k + (1 : Int)) then
 X VEx.normal [I (k + (1 : Int)), lV n cap, I wide, I less, I q, I m, I e] (bL n l b)
 else False
 else bif inK IntKind.i64 (k + (1 : Int)) then
 X VEx.normal [I (k + (1 : Int)), lV n cap, I wide, I less, I q, I m, I e] (bL n l b)
 else False
 else bif decide (k = q) then
 bif !decide (y = m) then
 X VEx.ret [I k, lV n cap, I wide, I less, I q, I m, I e] (bL n l b)
 else bif inK IntKind.i64 (k + (1 : Int)) then
 X VEx.normal [I (k + (1 : Int)), lV n cap, I wide, I less, I q, I m, I e] (bL n l b)
 else False
 else bif inK IntKind.i64 (k + (1 : Int)) then
 X VEx.normal [I (k + (1 : Int)), lV n cap, I wide, I less, I q, I m, I e] (bL n l b)
 else False
 else bif inK IntKind.i64 (k + (1 : Int)) then
 X VEx.normal [I (k + (1 : Int)), lV n cap, I wide, I less, I q, I m, I e] (bL n l b)
 else False
 else bif decide (e = (0 : Int)) then
 bif decide (y > m) then
 X VEx.ret [I k, lV n cap, I wide, I less, I q, I m, I e] (bL n l b)
 else bif decide (k < q) then
 bif decide (y = m) then
 X VEx.ret [I k, lV n cap, I wide, I less, I q, I m, I e] (bL n l b)
 else bif decide (k = q) then
 bif !decide (y = m) then
 X VEx.ret [I k, lV n cap, I wide, I less, I q, I m, I e] (bL n l b)
 else bif inK IntKind.i64 (k + (1 : Int)) then
 X VEx.normal [I (k + (1 : Int)), lV n cap, I wide, I less, I q, I m, I e] (bL n l b)
 else False
 else bif inK IntKind.i64 (k + (1 : Int)) then
 X VEx.normal [I (k + (1 : Int)), lV n cap, I wide, I less, I q, I m, I e] (bL n l b)
 else False
 else bif decide (k = q) then
 bif !decide (y = m) then
 X VEx.ret [I k, lV n cap, I wide, I less, I q, I m, I e] (bL n l b)
 else bif inK IntKind.i64 (k + (1 : Int)) then
 X VEx.normal [I (k + (1 : Int)), lV n cap, I wide, I less, I q, I m, I e] (bL n l b)
 else False
 else bif inK IntKind.i64 (k + (1 : Int)) then
 X VEx.normal [I (k + (1 : Int)), lV n cap, I wide, I less, I q, I m, I e] (bL n l b)
 else False
 else bif inK IntKind.i64 (k + (1 : Int)) then
 X VEx.normal [I (k + (1 : Int)), lV n cap, I wide, I less, I q, I m, I e] (bL n l b)
 else False
 else X (VEx.exit 0) [I k, lV n cap, I wide, I less, I q, I m, I e] (bL n l b)
 else False
 else X (VEx.exit 0) [I k, lV n cap, I wide, I less, I q, I m, I e] (bL n l b)) := by kernel_rfl

theorem law8_ev (n cap : Nat) (l : Int → Src) (b : Sus) (wide less : Int) (X : VRes → VH → Prop) : spBL Try.prog 8 (tabS (t3 n l b)) [(0, A0r n cap l b wide less)] 10 20 0 [lV n cap, I wide, I less] (bH n l b) X =
  (bif decide ((↑n : Int) > (12 : Int)) then
 X (VRes.ret (VV.bool true)) (VH.mk (3) ([(0, srcA n l), (1, valA n l), (2, seenA b)]))
 else ((srcA n l = srcA n l ∧ valA n l = valA n l ∧ seenA b = seenA b) ∧ n = n ∧ n ≤ cap) ∧ ∀ (x y z : Int), askF n l wide = (x, y, z) → bif decide (z = (1 : Int)) then
 bif decide (x = (0 : Int)) then
 bif decide (y = (0 : Int)) then
 X (VRes.ret (VV.bool true)) (VH.mk (3) ([(0, srcA n l), (1, valA n l), (2, seenA b)]))
 else X (VRes.ret (VV.bool false)) (VH.mk (3) ([(0, srcA n l), (1, valA n l), (2, seenA b)]))
 else X (VRes.ret (VV.bool false)) (VH.mk (3) ([(0, srcA n l), (1, valA n l), (2, seenA b)]))
 else bif decide (z = (2 : Int)) then
 bif decide (x = (0 : Int)) then
 bif decide (y = (0 : Int)) then
 X (VRes.ret (VV.bool true)) (VH.mk (3) ([(0, srcA n l), (1, valA n l), (2, seenA b)]))
 else X (VRes.ret (VV.bool false)) (VH.mk (3) ([(0, srcA n l), (1, valA n l), (2, seenA b)]))
 else X (VRes.ret (VV.bool false)) (VH.mk (3) ([(0, srcA n l), (1, valA n l), (2, seenA b)]))
 else ((srcA n l = srcA n l ∧ valA n l = valA n l ∧ seenA b = seenA b) ∧ n = n) ∧ bif !srcsB n l then
 X (VRes.ret (VV.bool false)) (VH.mk (3) ([(0, srcA n l), (1, valA n l), (2, seenA b)]))
 else bif decide (wide < (0 : Int)) then
 X (VRes.ret (VV.bool false)) (VH.mk (3) ([(0, srcA n l), (1, valA n l), (2, seenA b)]))
 else bif decide (wide > (1048576 : Int)) then
 X (VRes.ret (VV.bool false)) (VH.mk (3) ([(0, srcA n l), (1, valA n l), (2, seenA b)]))
 else (FitP 0 (VH.mk (3) ([0, 1, 2].zip (bL n l b))) (dsA0.zip (VA0 n cap wide less x y z (0 : Int))) (VH.mk (3) ([0, 1, 2].zip (bL n l b))) (dsA0.zip (VA0 n cap wide less x y z (0 : Int))) ∧ srcsB n l = true ∧ inB wide (0 : Int) (1048576 : Int) = true ∧ askF n l wide = (x, y, z)) ∧ ∀ (j : Int), bif !decide (z = (0 : Int)) then
 bif decide (z = (4 : Int)) then
 bif decide (x = (0 : Int)) then
 bif decide (y = (0 : Int)) then
 X (VRes.ret (VV.bool true)) (VH.mk (3) ([(0, srcA n l), (1, valA n l), (2, seenA b)]))
 else X (VRes.ret (VV.bool false)) (VH.mk (3) ([(0, srcA n l), (1, valA n l), (2, seenA b)]))
 else X (VRes.ret (VV.bool false)) (VH.mk (3) ([(0, srcA n l), (1, valA n l), (2, seenA b)]))
 else X (VRes.ret (VV.bool false)) (VH.mk (3) ([(0, srcA n l), (1, valA n l), (2, seenA b)]))
 else bif decide (less < (0 : Int)) then
 bif decide (y > (0 : Int)) then
 X (VRes.ret (VV.bool true)) (VH.mk (3) ([(0, srcA n l), (1, valA n l), (2, seenA b)]))
 else X (VRes.ret (VV.bool false)) (VH.mk (3) ([(0, srcA n l), (1, valA n l), (2, seenA b)]))
 else bif decide (less > wide) then
 bif decide (y > (0 : Int)) then
 X (VRes.ret (VV.bool true)) (VH.mk (3) ([(0, srcA n l), (1, valA n l), (2, seenA b)]))
 else X (VRes.ret (VV.bool false)) (VH.mk (3) ([(0, srcA n l), (1, valA n l), (2, seenA b)]))
 else ((srcA n l = srcA n l ∧ valA n l = valA n l ∧ seenA b = seenA b) ∧ n = n ∧ n ≤ cap) ∧ ∀ (x y_1 z : Int), askF n l less = (x, y_1, z) → bif decide (z = (0 : Int)) then
 bif decide (y_1 ≥ y) then
 bif decide (y > (0 : Int)) then
 X (VRes.ret (VV.bool true)) (VH.mk (3) ([(0, srcA n l), (1, valA n l), (2, seenA b)]))
 else X (VRes.ret (VV.bool false)) (VH.mk (3) ([(0, srcA n l), (1, valA n l), (2, seenA b)]))
 else X (VRes.ret (VV.bool false)) (VH.mk (3) ([(0, srcA n l), (1, valA n l), (2, seenA b)]))
 else X (VRes.ret (VV.bool false)) (VH.mk (3) ([(0, srcA n l), (1, valA n l), (2, seenA b)]))) := by kernel_rfl


end Go.Sx.Gen
