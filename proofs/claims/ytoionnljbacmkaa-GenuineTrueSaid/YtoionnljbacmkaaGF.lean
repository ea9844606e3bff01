/- genuine: Gf1 Gf2 Gf3 Gg1 Gg2, in one text. -/
import Derived.Test.YtoionnljbacmkaaGE
/- genuine: shares, evaluated. -/

namespace Go.Sx.Gen
open Go Go.Sx Go.Proofs
set_option maxRecDepth 100000

structure Shr where
  la : Int
  lb : Int
  ma : Int
  mb : Int
  no : Bool

abbrev shV (s : Shr) : VV := .agg [I s.la, I s.lb, I s.ma, I s.mb, .bool s.no]

def atF (s : Shr) (A C : Int) : Shr :=
  let s1 : Shr := if A > 0 then (if s.la * A < C * s.lb then ⟨C, A, s.ma, s.mb, s.no⟩ else s) else if A < 0 then (if -C * s.mb < s.ma * -A then ⟨s.la, s.lb, -C, -A, s.no⟩ else s) else ⟨s.la, s.lb, s.ma, s.mb, s.no || decide (C > 0)⟩
  ⟨s1.la, s1.lb, s1.ma, s1.mb, s1.no || decide (s1.ma * s1.lb < s1.la * s1.mb)⟩

def mkS (la lb ma mb : Int) (no : Bool) : Shr := ⟨la, lb, ma, mb, no⟩
theorem mkS_eta (s : Shr) : mkS s.la s.lb s.ma s.mb s.no = s := rfl
def bdI (n x : Int) : Prop := -n ≤ x ∧ x ≤ n
def Bd (s : Shr) : Prop := bdI 4194304 s.la ∧ bdI 4194304 s.lb ∧ bdI 4194304 s.ma ∧ bdI 4194304 s.mb

/-- atLeast as a row. -/
def at48T : FuncId × Spec1 := (48, fun _ args h K => match args with
  | [.agg [.int .i64 la, .int .i64 lb, .int .i64 ma, .int .i64 mb, .bool no], .int .i64 x, .int .i64 y, .int .i64 c] =>
    (Bd (mkS la lb ma mb no) ∧ bdI 1048576 x ∧ bdI 1048576 y ∧ bdI 1048576 c) ∧ K (.ret (shV (atF (mkS la lb ma mb no) (x - y) (c - y)))) h
  | _ => False)

def shr0 (b : Sus) (x y : Src) : Shr := atF (mkS 0 1 1 1 (decide (min x.drawn y.drawn < max b.glass b.paper))) (x.shi - y.shi) (b.slo - y.shi)
def s1 (l : Int → Src) (b : Sus) (i j k : Int) (s : Shr) : Shr := atF s ((l i).hi (0 + k) - (l j).hi (0 + k)) (b.lo (0 + k) - (l j).hi (0 + k))
def shrK (b : Sus) (x y : Src) (s : Shr) (k : Int) : Shr := atF (atF s (x.hi k - y.hi k) (b.lo k - y.hi k)) (0 - x.lo k - (0 - y.lo k)) (0 - b.hi k - (0 - y.lo k))
def shrL (b : Sus) (x y : Src) : Nat → Int → Shr → Shr
  | 0, _, s => s
  | m + 1, k, s => shrL b x y m (k + 1) (shrK b x y s k)
def sharedF (b : Sus) (x y : Src) : Shr := shrL b x y b.sl 0 (shr0 b x y)

def cH (s : Shr) : VB := .cells [I s.la, I s.lb, I s.ma, I s.mb, .bool s.no] 75
def BS (n : Nat) (l : Int → Src) (b : Sus) (i j : Int) (s : Shr) : List VB := [srcA n l, valA n l, seenA b, cSu b, cSo l i, cSo l j, .cells [I 0, I 0, I 0, I 0, .bool false] 75, cH s]
def dsS : List Nat := [38, 37, 36, 3, 4, 5, 6, 7]
def VS (b : Sus) (k : Int) : List VV := [I k, I b.sl, .slice (.el 2 [] 0 0) b.sl b.sc, .ptr (.own 3 0), .ptr (.own 4 0), .ptr (.own 5 0), .ptr (.own 6 0), .ptr (.own 7 0)]
def nsS : List Nat := [0, 1, 2, 3, 4, 5, 6, 7]
def OkS (n : Nat) (l : Int → Src) (b : Sus) (i j : Int) : Prop := okB n l b = true ∧ (0 ≤ i ∧ i < n) ∧ (0 ≤ j ∧ j < n)

def LS0 (n : Nat) (l : Int → Src) (b : Sus) (i j : Int) : LT := fun lock t h K =>
  FitP lock h t ⟨8, nsS.zip (BS n l b i j (shr0 b (l i) (l j)))⟩ (dsS.zip (VS b 0)) ∧ OkS n l b i j ∧ K .normal (dsS.zip (VS b b.sl)) ⟨8, nsS.zip (BS n l b i j (sharedF b (l i) (l j)))⟩

theorem f48_ev (s : Shr) (x y c : Int) (Q : VRes → VH → Prop) : callN Try.prog noSpec noL 10 20 0 (.fn 48) [shV s, I x, I y, I c] ⟨0, []⟩ Q =
  (bif inK IntKind.i64 (x - y) then
 bif decide (x - y > (0 : Int)) then
 bif inK IntKind.i64 (c - y) then
 bif inK IntKind.i64 (s.la * (x - y)) then
 bif inK IntKind.i64 ((c - y) * s.lb) then
 bif decide (s.la * (x - y) < (c - y) * s.lb) then
 bif s.no then
 Q (VRes.ret (VV.agg [I (c - y), I (x - y), I s.ma, I s.mb, VV.bool true])) (VH.mk (5) ([(1, VB.cells [I (c - y), I (x - y), I s.ma, I s.mb, VV.bool true] 75), (0, VB.cells [I (c - y), I (x - y), I s.ma, I s.mb, VV.bool true] 75), (0, VB.cells [I (c - y), I (x - y), I s.ma, I s.mb, VV.bool s.no] 75), (4, VB.cells [I (c - y), I (x - y)] 73), (3, VB.cells [I s.la, I s.lb] 73), (2, VB.cells [I (c - y), I (x - y)] 73), (2, VB.cells [I 0, I 0] 73), (1, VB.cells [I 0, I 0, I 0, I 0, VV.bool false] 75), (0, VB.cells [I s.la, I s.lb, I s.ma, I s.mb, VV.bool s.no] 75)]))
 else bif inK IntKind.i64 (s.ma * (x - y)) then
 bif inK IntKind.i64 ((c - y) * s.mb) then
 Q (VRes.ret (VV.agg [I (c - y), I (x - y), I s.ma, I s.mb, VV.bool (decide (s.ma * (x - y) < (c - y) * s.mb))])) (VH.mk (7) ([(1, VB.cells [I (c - y), I (x - y), I s.ma, I s.mb, VV.bool (decide (s.ma * (x - y) < (c - y) * s.mb))] 75), (0, VB.cells [I (c - y), I (x - y), I s.ma, I s.mb, VV.bool (decide (s.ma * (x - y) < (c - y) * s.mb))] 75), (6, VB.cells [I (c - y), I (x - y)] 73), (5, VB.cells [I s.ma, I s.mb] 73), (0, VB.cells [I (c - y), I (x - y), I s.ma, I s.mb, VV.bool s.no] 75), (4, VB.cells [I (c - y), I (x - y)] 73), (3, VB.cells [I s.la, I s.lb] 73), (2, VB.cells [I (c - y), I (x - y)] 73), (2, VB.cells [I 0, I 0] 73), (1, VB.cells [I 0, I 0, I 0, I 0, VV.bool false] 75), (0, VB.cells [I s.la, I s.lb, I s.ma, I s.mb, VV.bool s.no] 75)]))
 else False
 else False
 else bif s.no then
 Q (VRes.ret (VV.agg [I s.la, I s.lb, I s.ma, I s.mb, VV.bool true])) (VH.mk (5) ([(1, VB.cells [I s.la, I s.lb, I s.ma, I s.mb, VV.bool true] 75), (0, VB.cells [I s.la, I s.lb, I s.ma, I s.mb, VV.bool true] 75), (4, VB.cells [I (c - y), I (x - y)] 73), (3, VB.cells [I s.la, I s.lb] 73), (2, VB.cells [I (c - y), I (x - y)] 73), (2, VB.cells [I 0, I 0] 73), (1, VB.cells [I 0, I 0, I 0, I 0, VV.bool false] 75), (0, VB.cells [I s.la, I s.lb, I s.ma, I s.mb, VV.bool s.no] 75)]))
 else bif inK IntKind.i64 (s.ma * s.lb) then
 bif inK IntKind.i64 (s.la * s.mb) then
 Q (VRes.ret (VV.agg [I s.la, I s.lb, I s.ma, I s.mb, VV.bool (decide (s.ma * s.lb < s.la * s.mb))])) (VH.mk (7) ([(1, VB.cells [I s.la, I s.lb, I s.ma, I s.mb, VV.bool (decide (s.ma * s.lb < s.la * s.mb))] 75), (0, VB.cells [I s.la, I s.lb, I s.ma, I s.mb, VV.bool (decide (s.ma * s.lb < s.la * s.mb))] 75), (6, VB.cells [I s.la, I s.lb] 73), (5, VB.cells [I s.ma, I s.mb] 73), (4, VB.cells [I (c - y), I (x - y)] 73), (3, VB.cells [I s.la, I s.lb] 73), (2, VB.cells [I (c - y), I (x - y)] 73), (2, VB.cells [I 0, I 0] 73), (1, VB.cells [I 0, I 0, I 0, I 0, VV.bool false] 75), (0, VB.cells [I s.la, I s.lb, I s.ma, I s.mb, VV.bool s.no] 75)]))
 else False
 else False
 else False
 else False
 else False
 else bif decide (x - y < (0 : Int)) then
 bif inK IntKind.i64 (y - c) then
 bif inK IntKind.i64 ((0 : Int) - (x - y)) then
 bif inK IntKind.i64 ((y - c) * s.mb) then
 bif inK IntKind.i64 (s.ma * ((0 : Int) - (x - y))) then
 bif decide ((y - c) * s.mb < s.ma * ((0 : Int) - (x - y))) then
 bif s.no then
 Q (VRes.ret (VV.agg [I s.la, I s.lb, I (y - c), I ((0 : Int) - (x - y)), VV.bool true])) (VH.mk (5) ([(1, VB.cells [I s.la, I s.lb, I (y - c), I ((0 : Int) - (x - y)), VV.bool true] 75), (0, VB.cells [I s.la, I s.lb, I (y - c), I ((0 : Int) - (x - y)), VV.bool true] 75), (0, VB.cells [I s.la, I s.lb, I (y - c), I ((0 : Int) - (x - y)), VV.bool s.no] 75), (4, VB.cells [I s.ma, I s.mb] 73), (3, VB.cells [I (y - c), I ((0 : Int) - (x - y))] 73), (2, VB.cells [I (y - c), I ((0 : Int) - (x - y))] 73), (2, VB.cells [I 0, I 0] 73), (1, VB.cells [I 0, I 0, I 0, I 0, VV.bool false] 75), (0, VB.cells [I s.la, I s.lb, I s.ma, I s.mb, VV.bool s.no] 75)]))
 else bif inK IntKind.i64 ((y - c) * s.lb) then
 bif inK IntKind.i64 (s.la * ((0 : Int) - (x - y))) then
 Q (VRes.ret (VV.agg [I s.la, I s.lb, I (y - c), I ((0 : Int) - (x - y)), VV.bool (decide ((y - c) * s.lb < s.la * ((0 : Int) - (x - y))))])) (VH.mk (7) ([(1, VB.cells [I s.la, I s.lb, I (y - c), I ((0 : Int) - (x - y)), VV.bool (decide ((y - c) * s.lb < s.la * ((0 : Int) - (x - y))))] 75), (0, VB.cells [I s.la, I s.lb, I (y - c), I ((0 : Int) - (x - y)), VV.bool (decide ((y - c) * s.lb < s.la * ((0 : Int) - (x - y))))] 75), (6, VB.cells [I s.la, I s.lb] 73), (5, VB.cells [I (y - c), I ((0 : Int) - (x - y))] 73), (0, VB.cells [I s.la, I s.lb, I (y - c), I ((0 : Int) - (x - y)), VV.bool s.no] 75), (4, VB.cells [I s.ma, I s.mb] 73), (3, VB.cells [I (y - c), I ((0 : Int) - (x - y))] 73), (2, VB.cells [I (y - c), I ((0 : Int) - (x - y))] 73), (2, VB.cells [I 0, I 0] 73), (1, VB.cells [I 0, I 0, I 0, I 0, VV.bool false] 75), (0, VB.cells [I s.la, I s.lb, I s.ma, I s.mb, VV.bool s.no] 75)]))
 else False
 else False
 else bif s.no then
 Q (VRes.ret (VV.agg [I s.la, I s.lb, I s.ma, I s.mb, VV.bool true])) (VH.mk (5) ([(1, VB.cells [I s.la, I s.lb, I s.ma, I s.mb, VV.bool true] 75), (0, VB.cells [I s.la, I s.lb, I s.ma, I s.mb, VV.bool true] 75), (4, VB.cells [I s.ma, I s.mb] 73), (3, VB.cells [I (y - c), I ((0 : Int) - (x - y))] 73), (2, VB.cells [I (y - c), I ((0 : Int) - (x - y))] 73), (2, VB.cells [I 0, I 0] 73), (1, VB.cells [I 0, I 0, I 0, I 0, VV.bool false] 75), (0, VB.cells [I s.la, I s.lb, I s.ma, I s.mb, VV.bool s.no] 75)]))
 else bif inK IntKind.i64 (s.ma * s.lb) then
 bif inK IntKind.i64 (s.la * s.mb) then
 Q (VRes.ret (VV.agg [I s.la, I s.lb, I s.ma, I s.mb, VV.bool (decide (s.ma * s.lb < s.la * s.mb))])) (VH.mk (7) ([(1, VB.cells [I s.la, I s.lb, I s.ma, I s.mb, VV.bool (decide (s.ma * s.lb < s.la * s.mb))] 75), (0, VB.cells [I s.la, I s.lb, I s.ma, I s.mb, VV.bool (decide (s.ma * s.lb < s.la * s.mb))] 75), (6, VB.cells [I s.la, I s.lb] 73), (5, VB.cells [I s.ma, I s.mb] 73), (4, VB.cells [I s.ma, I s.mb] 73), (3, VB.cells [I (y - c), I ((0 : Int) - (x - y))] 73), (2, VB.cells [I (y - c), I ((0 : Int) - (x - y))] 73), (2, VB.cells [I 0, I 0] 73), (1, VB.cells [I 0, I 0, I 0, I 0, VV.bool false] 75), (0, VB.cells [I s.la, I s.lb, I s.ma, I s.mb, VV.bool s.no] 75)]))
 else False
 else False
 else False
 else False
 else False
 else False
 else bif s.no then
 Q (VRes.ret (VV.agg [I s.la, I s.lb, I s.ma, I s.mb, VV.bool true])) (VH.mk (2) ([(1, VB.cells [I s.la, I s.lb, I s.ma, I s.mb, VV.bool true] 75), (0, VB.cells [I s.la, I s.lb, I s.ma, I s.mb, VV.bool true] 75), (0, VB.cells [I s.la, I s.lb, I s.ma, I s.mb, VV.bool true] 75), (1, VB.cells [I 0, I 0, I 0, I 0, VV.bool false] 75), (0, VB.cells [I s.la, I s.lb, I s.ma, I s.mb, VV.bool s.no] 75)]))
 else bif decide (y < c) then
 Q (VRes.ret (VV.agg [I s.la, I s.lb, I s.ma, I s.mb, VV.bool true])) (VH.mk (2) ([(1, VB.cells [I s.la, I s.lb, I s.ma, I s.mb, VV.bool true] 75), (0, VB.cells [I s.la, I s.lb, I s.ma, I s.mb, VV.bool true] 75), (0, VB.cells [I s.la, I s.lb, I s.ma, I s.mb, VV.bool (decide (y < c))] 75), (1, VB.cells [I 0, I 0, I 0, I 0, VV.bool false] 75), (0, VB.cells [I s.la, I s.lb, I s.ma, I s.mb, VV.bool s.no] 75)]))
 else bif inK IntKind.i64 (s.ma * s.lb) then
 bif inK IntKind.i64 (s.la * s.mb) then
 Q (VRes.ret (VV.agg [I s.la, I s.lb, I s.ma, I s.mb, VV.bool (decide (s.ma * s.lb < s.la * s.mb))])) (VH.mk (4) ([(1, VB.cells [I s.la, I s.lb, I s.ma, I s.mb, VV.bool (decide (s.ma * s.lb < s.la * s.mb))] 75), (0, VB.cells [I s.la, I s.lb, I s.ma, I s.mb, VV.bool (decide (s.ma * s.lb < s.la * s.mb))] 75), (3, VB.cells [I s.la, I s.lb] 73), (2, VB.cells [I s.ma, I s.mb] 73), (0, VB.cells [I s.la, I s.lb, I s.ma, I s.mb, VV.bool (decide (y < c))] 75), (1, VB.cells [I 0, I 0, I 0, I 0, VV.bool false] 75), (0, VB.cells [I s.la, I s.lb, I s.ma, I s.mb, VV.bool s.no] 75)]))
 else False
 else False
 else False) := by kernel_rfl

theorem s0_ev (n : Nat) (l : Int → Src) (b : Sus) (i j k : Int) (s : Shr) (X : VEx → List VV → List VB → Prop) : codeE Try.prog (callN Try.prog (tabS [at48T]) noL 10 20) (fun _ => none) true 10 80 0 (loopB 0 (bodyOf Try.prog 35)) (dsS.zip (VS b k)) ⟨8, nsS.zip (BS n l b i j s)⟩ (obs 8 dsS nsS X) =
  (bif decide (k < (↑b.sl : Int)) then
 bif decide ((0 : Int) ≤ k ∧ k < (↑b.sl : Int)) then
 (([] : List Int) = [] ∧ (0 : Int) ≤ (0 : Int) + k ∧ (0 : Int) + k < (↑b.sl : Int)) ∧ bif decide ((0 : Int) ≤ k ∧ k < (↑(l i).vl : Int)) then
 (∃ i_1, [i] = [i_1] ∧ (0 : Int) ≤ i_1 ∧ i_1 < (↑n : Int) ∧ (0 : Int) ≤ (0 : Int) + k ∧ (0 : Int) + k < (↑(l i_1).vl : Int)) ∧ bif decide ((0 : Int) ≤ k ∧ k < (↑(l j).vl : Int)) then
 (∃ i, [j] = [i] ∧ (0 : Int) ≤ i ∧ i < (↑n : Int) ∧ (0 : Int) ≤ (0 : Int) + k ∧ (0 : Int) + k < (↑(l i).vl : Int)) ∧ (Bd (s) ∧ bdI 1048576 (at1 (fun i => (l i).hi) [i] ((0 : Int) + k)) ∧ bdI 1048576 (at1 (fun i => (l i).hi) [j] ((0 : Int) + k)) ∧ bdI 1048576 ((kLo b) [] ((0 : Int) + k))) ∧ bif decide ((0 : Int) ≤ k ∧ k < (↑(l i).vl : Int)) then
 (∃ i_1, [i] = [i_1] ∧ (0 : Int) ≤ i_1 ∧ i_1 < (↑n : Int) ∧ (0 : Int) ≤ (0 : Int) + k ∧ (0 : Int) + k < (↑(l i_1).vl : Int)) ∧ bif inK IntKind.i64 ((0 : Int) - at1 (fun i => (l i).lo) [i] ((0 : Int) + k)) then
 bif decide ((0 : Int) ≤ k ∧ k < (↑(l j).vl : Int)) then
 (∃ i, [j] = [i] ∧ (0 : Int) ≤ i ∧ i < (↑n : Int) ∧ (0 : Int) ≤ (0 : Int) + k ∧ (0 : Int) + k < (↑(l i).vl : Int)) ∧ bif inK IntKind.i64 ((0 : Int) - at1 (fun i => (l i).lo) [j] ((0 : Int) + k)) then
 bif inK IntKind.i64 ((0 : Int) - (kHi b) [] ((0 : Int) + k)) then
 (Bd (mkS (atF (s) (at1 (fun i => (l i).hi) [i] ((0 : Int) + k) - at1 (fun i => (l i).hi) [j] ((0 : Int) + k)) ((kLo b) [] ((0 : Int) + k) - at1 (fun i => (l i).hi) [j] ((0 : Int) + k))).la (atF (s) (at1 (fun i => (l i).hi) [i] ((0 : Int) + k) - at1 (fun i => (l i).hi) [j] ((0 : Int) + k)) ((kLo b) [] ((0 : Int) + k) - at1 (fun i => (l i).hi) [j] ((0 : Int) + k))).lb (atF (s) (at1 (fun i => (l i).hi) [i] ((0 : Int) + k) - at1 (fun i => (l i).hi) [j] ((0 : Int) + k)) ((kLo b) [] ((0 : Int) + k) - at1 (fun i => (l i).hi) [j] ((0 : Int) + k))).ma (atF (s) (at1 (fun i => (l i).hi) [i] ((0 : Int) + k) - at1 (fun i => (l i).hi) [j] ((0 : Int) + k)) ((kLo b) [] ((0 : Int) + k) - at1 (fun i => (l i).hi) [j] ((0 : Int) + k))).mb (atF (s) (at1 (fun i => (l i).hi) [i] ((0 : Int) + k) - at1 (fun i => (l i).hi) [j] ((0 : Int) + k)) ((kLo b) [] ((0 : Int) + k) - at1 (fun i => (l i).hi) [j] ((0 : Int) + k))).no) ∧ bdI 1048576 ((0 : Int) - at1 (fun i => (l i).lo) [i] ((0 : Int) + k)) ∧ bdI 1048576 ((0 : Int) - at1 (fun i => (l i).lo) [j] ((0 : Int) + k)) ∧ bdI 1048576 ((0 : Int) - (kHi b) [] ((0 : Int) + k))) ∧ bif inK IntKind.i64 (k + (1 : Int)) then
 X VEx.normal [I (k + (1 : Int)), I (↑b.sl : Int), VV.slice (VA.el 2 [] (0 : Int) 0) b.sl b.sc, VV.ptr (VA.own 3 0), VV.ptr (VA.own 4 0), VV.ptr (VA.own 5 0), VV.ptr (VA.own 6 0), VV.ptr (VA.own 7 0)] [srcA n l, valA n l, seenA b, cSu b, cSo l i, cSo l j, VB.cells [I 0, I 0, I 0, I 0, VV.bool false] (75 : TypeId), VB.cells [I (atF (mkS (atF (s) (at1 (fun i => (l i).hi) [i] ((0 : Int) + k) - at1 (fun i => (l i).hi) [j] ((0 : Int) + k)) ((kLo b) [] ((0 : Int) + k) - at1 (fun i => (l i).hi) [j] ((0 : Int) + k))).la (atF (s) (at1 (fun i => (l i).hi) [i] ((0 : Int) + k) - at1 (fun i => (l i).hi) [j] ((0 : Int) + k)) ((kLo b) [] ((0 : Int) + k) - at1 (fun i => (l i).hi) [j] ((0 : Int) + k))).lb (atF (s) (at1 (fun i => (l i).hi) [i] ((0 : Int) + k) - at1 (fun i => (l i).hi) [j] ((0 : Int) + k)) ((kLo b) [] ((0 : Int) + k) - at1 (fun i => (l i).hi) [j] ((0 : Int) + k))).ma (atF (s) (at1 (fun i => (l i).hi) [i] ((0 : Int) + k) - at1 (fun i => (l i).hi) [j] ((0 : Int) + k)) ((kLo b) [] ((0 : Int) + k) - at1 (fun i => (l i).hi) [j] ((0 : Int) + k))).mb (atF (s) (at1 (fun i => (l i).hi) [i] ((0 : Int) + k) - at1 (fun i => (l i).hi) [j] ((0 : Int) + k)) ((kLo b) [] ((0 : Int) + k) - at1 (fun i => (l i).hi) [j] ((0 : Int) + k))).no) ((0 : Int) - at1 (fun i => (l i).lo) [i] ((0 : Int) + k) - ((0 : Int) - at1 (fun i => (l i).lo) [j] ((0 : Int) + k))) ((0 : Int) - (kHi b) [] ((0 : Int) + k) - ((0 : Int) - at1 (fun i => (l i).lo) [j] ((0 : Int) + k)))).la, I (atF (mkS (atF (s) (at1 (fun i => (l i).hi) [i] ((0 : Int) + k) - at1 (fun i => (l i).hi) [j] ((0 : Int) + k)) ((kLo b) [] ((0 : Int) + k) - at1 (fun i => (l i).hi) [j] ((0 : Int) + k))).la (atF (s) (at1 (fun i => (l i).hi) [i] ((0 : Int) + k) - at1 (fun i => (l i).hi) [j] ((0 : Int) + k)) ((kLo b) [] ((0 : Int) + k) - at1 (fun i => (l i).hi) [j] ((0 : Int) + k))).lb (atF (s) (at1 (fun i => (l i).hi) [i] ((0 : Int) + k) - at1 (fun i => (l i).hi) [j] ((0 : Int) + k)) ((kLo b) [] ((0 : Int) + k) - at1 (fun i => (l i).hi) [j] ((0 : Int) + k))).ma (atF (s) (at1 (fun i => (l i).hi) [i] ((0 : Int) + k) - at1 (fun i => (l i).hi) [j] ((0 : Int) + k)) ((kLo b) [] ((0 : Int) + k) - at1 (fun i => (l i).hi) [j] ((0 : Int) + k))).mb (atF (s) (at1 (fun i => (l i).hi) [i] ((0 : Int) + k) - at1 (fun i => (l i).hi) [j] ((0 : Int) + k)) ((kLo b) [] ((0 : Int) + k) - at1 (fun i => (l i).hi) [j] ((0 : Int) + k))).no) ((0 : Int) - at1 (fun i => (l i).lo) [i] ((0 : Int) + k) - ((0 : Int) - at1 (fun i => (l i).lo) [j] ((0 : Int) + k))) ((0 : Int) - (kHi b) [] ((0 : Int) + k) - ((0 : Int) - at1 (fun i => (l i).lo) [j] ((0 : Int) + k)))).lb, I (atF (mkS (atF (s) (at1 (fun i => (l i).hi) [i] ((0 : Int) + k) - at1 (fun i => (l i).hi) [j] ((0 : Int) + k)) ((kLo b) [] ((0 : Int) + k) - at1 (fun i => (l i).hi) [j] ((0 : Int) + k))).la (atF (s) (at1 (fun i => (l i).hi) [i] ((0 : Int) + k) - at1 (fun i => (l i).hi) [j] ((0 : Int) + k)) ((kLo b) [] ((0 : Int) + k) - at1 (fun i => (l i).hi) [j] ((0 : Int) + k))).lb (atF (s) (at1 (fun i => (l i).hi) [i] ((0 : Int) + k) - at1 (fun i => (l i).hi) [j] ((0 : Int) + k)) ((kLo b) [] ((0 : Int) + k) - at1 (fun i => (l i).hi) [j] ((0 : Int) + k))).ma (atF (s) (at1 (fun i => (l i).hi) [i] ((0 : Int) + k) - at1 (fun i => (l i).hi) [j] ((0 : Int) + k)) ((kLo b) [] ((0 : Int) + k) - at1 (fun i => (l i).hi) [j] ((0 : Int) + k))).mb (atF (s) (at1 (fun i => (l i).hi) [i] ((0 : Int) + k) - at1 (fun i => (l i).hi) [j] ((0 : Int) + k)) ((kLo b) [] ((0 : Int) + k) - at1 (fun i => (l i).hi) [j] ((0 : Int) + k))).no) ((0 : Int) - at1 (fun i => (l i).lo) [i] ((0 : Int) + k) - ((0 : Int) - at1 (fun i => (l i).lo) [j] ((0 : Int) + k))) ((0 : Int) - (kHi b) [] ((0 : Int) + k) - ((0 : Int) - at1 (fun i => (l i).lo) [j] ((0 : Int) + k)))).ma, I (atF (mkS (atF (s) (at1 (fun i => (l i).hi) [i] ((0 : Int) + k) - at1 (fun i => (l i).hi) [j] ((0 : Int) + k)) ((kLo b) [] ((0 : Int) + k) - at1 (fun i => (l i).hi) [j] ((0 : Int) + k))).la (atF (s) (at1 (fun i => (l i).hi) [i] ((0 : Int) + k) - at1 (fun i => (l i).hi) [j] ((0 : Int) + k)) ((kLo b) [] ((0 : Int) + k) - at1 (fun i => (l i).hi) [j] ((0 : Int) + k))).lb (atF (s) (at1 (fun i => (l i).hi) [i] ((0 : Int) + k) - at1 (fun i => (l i).hi) [j] ((0 : Int) + k)) ((kLo b) [] ((0 : Int) + k) - at1 (fun i => (l i).hi) [j] ((0 : Int) + k))).ma (atF (s) (at1 (fun i => (l i).hi) [i] ((0 : Int) + k) - at1 (fun i => (l i).hi) [j] ((0 : Int) + k)) ((kLo b) [] ((0 : Int) + k) - at1 (fun i => (l i).hi) [j] ((0 : Int) + k))).mb (atF (s) (at1 (fun i => (l i).hi) [i] ((0 : Int) + k) - at1 (fun i => (l i).hi) [j] ((0 : Int) + k)) ((kLo b) [] ((0 : Int) + k) - at1 (fun i => (l i).hi) [j] ((0 : Int) + k))).no) ((0 : Int) - at1 (fun i => (l i).lo) [i] ((0 : Int) + k) - ((0 : Int) - at1 (fun i => (l i).lo) [j] ((0 : Int) + k))) ((0 : Int) - (kHi b) [] ((0 : Int) + k) - ((0 : Int) - at1 (fun i => (l i).lo) [j] ((0 : Int) + k)))).mb, VV.bool (atF (mkS (atF (s) (at1 (fun i => (l i).hi) [i] ((0 : Int) + k) - at1 (fun i => (l i).hi) [j] ((0 : Int) + k)) ((kLo b) [] ((0 : Int) + k) - at1 (fun i => (l i).hi) [j] ((0 : Int) + k))).la (atF (s) (at1 (fun i => (l i).hi) [i] ((0 : Int) + k) - at1 (fun i => (l i).hi) [j] ((0 : Int) + k)) ((kLo b) [] ((0 : Int) + k) - at1 (fun i => (l i).hi) [j] ((0 : Int) + k))).lb (atF (s) (at1 (fun i => (l i).hi) [i] ((0 : Int) + k) - at1 (fun i => (l i).hi) [j] ((0 : Int) + k)) ((kLo b) [] ((0 : Int) + k) - at1 (fun i => (l i).hi) [j] ((0 : Int) + k))).ma (atF (s) (at1 (fun i => (l i).hi) [i] ((0 : Int) + k) - at1 (fun i => (l i).hi) [j] ((0 : Int) + k)) ((kLo b) [] ((0 : Int) + k) - at1 (fun i => (l i).hi) [j] ((0 : Int) + k))).mb (atF (s) (at1 (fun i => (l i).hi) [i] ((0 : Int) + k) - at1 (fun i => (l i).hi) [j] ((0 : Int) + k)) ((kLo b) [] ((0 : Int) + k) - at1 (fun i => (l i).hi) [j] ((0 : Int) + k))).no) ((0 : Int) - at1 (fun i => (l i).lo) [i] ((0 : Int) + k) - ((0 : Int) - at1 (fun i => (l i).lo) [j] ((0 : Int) + k))) ((0 : Int) - (kHi b) [] ((0 : Int) + k) - ((0 : Int) - at1 (fun i => (l i).lo) [j] ((0 : Int) + k)))).no] (75 : TypeId)]
 else False
 else False
 else False
 else False
 else False
 else False
 else False
 else False
 else False
 else X (VEx.exit 0) [I k, I (↑b.sl : Int), VV.slice (VA.el 2 [] (0 : Int) 0) b.sl b.sc, VV.ptr (VA.own 3 0), VV.ptr (VA.own 4 0), VV.ptr (VA.own 5 0), VV.ptr (VA.own 6 0), VV.ptr (VA.own 7 0)] [srcA n l, valA n l, seenA b, cSu b, cSo l i, cSo l j, VB.cells [I 0, I 0, I 0, I 0, VV.bool false] (75 : TypeId), VB.cells [I s.la, I s.lb, I s.ma, I s.mb, VV.bool s.no] (75 : TypeId)]) := by kernel_rfl

theorem f35_ev (n : Nat) (l : Int → Src) (b : Sus) (i j : Int) (Q : VRes → VH → Prop) : spBL Try.prog 35 (tabS [at48T]) [(0, LS0 n l b i j)] 10 20 0 [bV b, sV l i, sV l j] (bH n l b) Q =
  ((Bd (mkS (0 : Int) (1 : Int) (1 : Int) (1 : Int) (decide (min (l i).drawn (l j).drawn < max b.glass b.paper))) ∧ bdI 1048576 (l i).shi ∧ bdI 1048576 (l j).shi ∧ bdI 1048576 b.slo) ∧ FitP 0 (VH.mk (8) (nsS.zip (BS n l b i j (shr0 b (l i) (l j))))) (dsS.zip (VS b (0 : Int))) (VH.mk (8) (nsS.zip (BS n l b i j (shr0 b (l i) (l j))))) (dsS.zip (VS b (0 : Int))) ∧ OkS n l b i j ∧ Q (VRes.ret (VV.agg [I (sharedF b (l i) (l j)).la, I (sharedF b (l i) (l j)).lb, I (sharedF b (l i) (l j)).ma, I (sharedF b (l i) (l j)).mb, VV.bool (sharedF b (l i) (l j)).no])) (VH.mk (8) ([(6, VB.cells [I (sharedF b (l i) (l j)).la, I (sharedF b (l i) (l j)).lb, I (sharedF b (l i) (l j)).ma, I (sharedF b (l i) (l j)).mb, VV.bool (sharedF b (l i) (l j)).no] (75 : TypeId)), (0, srcA n l), (1, valA n l), (2, seenA b), (3, cSu b), (4, cSo l i), (5, cSo l j), (6, VB.cells [I 0, I 0, I 0, I 0, VV.bool false] (75 : TypeId)), (7, VB.cells [I (sharedF b (l i) (l j)).la, I (sharedF b (l i) (l j)).lb, I (sharedF b (l i) (l j)).ma, I (sharedF b (l i) (l j)).mb, VV.bool (sharedF b (l i) (l j)).no] (75 : TypeId))]))) := by kernel_rfl


end Go.Sx.Gen

/- genuine: shares. -/

namespace Go.Sx.Gen
open Go Go.Sx Go.Proofs
set_option maxRecDepth 100000

section
variable {n cap : Nat} {l : Int → Src} {b : Sus} {i j : Int}

/-- Numbers of a valid source. -/
structure SrcOk (b : Sus) (s : Src) : Prop where
  vl : b.sl = s.vl
  cask : 0 ≤ s.cask ∧ s.cask ≤ 1073741824
  drawn : 0 ≤ s.drawn ∧ s.drawn ≤ 65536
  str : 0 ≤ s.slo ∧ s.slo ≤ s.shi ∧ s.shi ≤ 10000
  val : ∀ k : Int, 0 ≤ k → k < s.vl → 0 ≤ s.lo k ∧ s.lo k ≤ s.hi k ∧ s.hi k ≤ 1048576

structure SusOk (b : Sus) : Prop where
  vl : b.sl ≤ 12
  glass : 0 ≤ b.glass ∧ b.glass ≤ 65536
  paper : 0 ≤ b.paper ∧ b.paper ≤ 65536
  str : 0 ≤ b.slo ∧ b.slo ≤ b.shi ∧ b.shi ≤ 10000
  val : ∀ k : Int, 0 ≤ k → k < b.sl → 0 ≤ b.lo k ∧ b.lo k ≤ b.hi k ∧ b.hi k ≤ 1048576

theorem inB_iff {n a c : Int} : inB n a c = true ↔ a ≤ n ∧ n ≤ c := by simp [inB]
theorem spanB_iff {a c m : Int} : spanB a c m = true ↔ 0 ≤ a ∧ a ≤ c ∧ c ≤ m := by simp [spanB, and_assoc]

theorem srcOk_of (h : okB n l b = true) (h0 : 0 ≤ i) (h1 : i < n) : SrcOk b (l i) := by
  have hI := okI_of h h0 h1
  simp only [okB, srcsB, Bool.and_eq_true] at h
  have h4 := allB_iff.1 h.1.2 i h0 (by omega)
  simp only [srcB, spansB, Bool.and_eq_true, inB_iff, spanB_iff] at h4
  refine ⟨hI.2.2, h4.1.1.1.1, h4.1.1.1.2, h4.1.1.2, fun k k0 k1 => ?_⟩
  have := allB_iff.1 h4.1.2.2 k k0 (by omega)
  exact spanB_iff.1 this

theorem susOk_of (h : okB n l b = true) : SusOk b := by
  simp only [okB, bothB, susB, spansB, Bool.and_eq_true, inB_iff, spanB_iff, decide_eq_true_eq] at h
  obtain ⟨_, ⟨⟨⟨⟨h1, h2⟩, h3⟩, h4, h5⟩, _⟩⟩ := h
  refine ⟨by omega, h1, h2, h3, fun k k0 k1 => ?_⟩
  exact spanB_iff.1 (allB_iff.1 h5 k k0 (by omega))

theorem mulR {a c : Int} (ha : bdI 4194304 a) (hc : bdI 4194304 c) : -9223372036854775808 ≤ a * c ∧ a * c ≤ 9223372036854775807 := by
  have h1 : a.natAbs ≤ 4194304 := by unfold bdI at ha; omega
  have h2 : c.natAbs ≤ 4194304 := by unfold bdI at hc; omega
  have h3 : (a * c).natAbs ≤ 4194304 * 4194304 := by rw [Int.natAbs_mul]; exact Nat.mul_le_mul h1 h2
  omega

theorem bdI_sub {a c : Int} (ha : bdI 1048576 a) (hc : bdI 1048576 c) : bdI 4194304 (a - c) := by
  unfold bdI at *; omega

theorem bdI_neg {n a : Int} (ha : bdI n a) : bdI n (-a) := by
  unfold bdI at *; omega

theorem atF_bd {s : Shr} {A C : Int} (hs : Bd s) (hA : bdI 4194304 A) (hC : bdI 4194304 C) : Bd (atF s A C) := by
  obtain ⟨h1, h2, h3, h4⟩ := hs
  unfold atF
  split
  · split
    · exact ⟨hC, hA, h3, h4⟩
    · exact ⟨h1, h2, h3, h4⟩
  · split
    · split
      · exact ⟨h1, h2, bdI_neg hC, bdI_neg hA⟩
      · exact ⟨h1, h2, h3, h4⟩
    · exact ⟨h1, h2, h3, h4⟩

theorem at48_v {s : Shr} {x y c : Int} (hs : Bd s) (hx : bdI 1048576 x) (hy : bdI 1048576 y) (hc : bdI 1048576 c) : ∃ h', CallsV Try.prog 48 [shV s, I x, I y, I c] ⟨0, []⟩ (.ret (shV (atF s (x - y) (c - y)))) h' := by
  obtain ⟨h1, h2, h3, h4⟩ := hs
  have hA := bdI_sub hx hy
  have hC := bdI_sub hc hy
  have hA' : bdI 4194304 (0 - (x - y)) := by unfold bdI at *; omega
  have hC' : bdI 4194304 (y - c) := by unfold bdI at *; omega
  have e1 : 0 - (x - y) = -(x - y) := by omega
  have e2 : y - c = -(c - y) := by omega
  obtain ⟨r, h', hQ, hcc⟩ := of_callN good0 (f := 48) (args := [shV s, I x, I y, I c]) (h := ⟨0, []⟩) (K := fun r h' => r = .ret (shV (atF s (x - y) (c - y))))
    (by
      rw [f48_ev]
      refine cond_r (by unfold bdI at *; omega) (cond_d (fun p => cond_r (by unfold bdI at *; omega) (cond_r (mulR h1 hA) (cond_r (mulR hC h2) (cond_d (fun q => cond_b (fun o => ?_) (fun o => cond_r (mulR h3 hA) (cond_r (mulR hC h4) ?_))) (fun q => cond_b (fun o => ?_) (fun o => cond_r (mulR h3 h2) (cond_r (mulR h1 h4) ?_)))))))
        (fun p => cond_d (fun p2 => cond_r (by unfold bdI at *; omega) (cond_r (by unfold bdI at *; omega) (cond_r (mulR hC' h4) (cond_r (mulR h3 hA') (cond_d (fun q => cond_b (fun o => ?_) (fun o => cond_r (mulR hC' h2) (cond_r (mulR h1 hA') ?_))) (fun q => cond_b (fun o => ?_) (fun o => cond_r (mulR h3 h2) (cond_r (mulR h1 h4) ?_))))))))
          (fun p2 => cond_b (fun o => ?_) (fun o => cond_d (fun q => ?_) (fun q => cond_r (mulR h3 h2) (cond_r (mulR h1 h4) ?_)))))) <;>
      (simp only [atF, e1, e2] at *)
      · rw [if_pos p, if_pos q]; simp [o]
      · rw [if_pos p, if_pos q]; simp [o]
      · rw [if_pos p, if_neg q]; simp [o]
      · rw [if_pos p, if_neg q]; simp [o]
      · rw [if_neg p, if_pos p2, if_pos q]; simp [o]
      · rw [if_neg p, if_pos p2, if_pos q]; simp [o]
      · rw [if_neg p, if_pos p2, if_neg q]; simp [o]
      · rw [if_neg p, if_pos p2, if_neg q]; simp [o]
      · rw [if_neg p, if_neg p2]; simp [o]
      · rw [if_neg p, if_neg p2]; simp [q]
      · rw [if_neg p, if_neg p2]; simp [o]; omega)
  subst hQ
  exact ⟨h', hcc⟩

theorem at48T_ok : SpOk Try.prog at48T.1 at48T.2 := by
  intro lock args h K hK
  simp only [at48T] at hK
  split at hK
  · rename_i la lb ma mb no x y c
    obtain ⟨⟨h1, h2, h3, h4⟩, hK⟩ := hK
    obtain ⟨h', hc⟩ := at48_v h1 h2 h3 h4
    exact ⟨_, h, hK, lockP_refl _ _, calls_lift hc (Nat.zero_le _) (fun m hm => absurd hm (Nat.not_lt_zero m)) (fun m hm => absurd hm (Nat.not_lt_zero m)) (fun m hm => absurd hm (Nat.not_lt_zero m)) (fun m hm => absurd hm (Nat.not_lt_zero m)) rfl rfl⟩
  · exact hK.elim
end
end Go.Sx.Gen

/- genuine: shares, their loop. -/

namespace Go.Sx.Gen
open Go Go.Sx Go.Proofs
set_option maxRecDepth 100000

section
variable {n cap : Nat} {l : Int → Src} {b : Sus} {i j : Int}

theorem shrL_step {b : Sus} {x y : Src} {m : Nat} {k : Int} {s : Shr} (h : k < m) : shrL b x y ((m : Int) - k).toNat k s = shrL b x y ((m : Int) - (k + 1)).toNat (k + 1) (shrK b x y s k) := by
  have : ((m : Int) - k).toNat = ((m : Int) - (k + 1)).toNat + 1 := by omega
  rw [this]; rfl

theorem good48 : Good Try.prog (callN Try.prog (tabS [at48T]) noL 10 20) := tab_good hmix (by
  intro x hx
  simp only [List.mem_singleton] at hx
  subst hx
  exact at48T_ok) 20

def OS0 (n : Nat) (l : Int → Src) (b : Sus) (i j : Int) (s : Int × Shr) (e : VEx) (vs : List VV) (bs : List VB) : Prop :=
  e = .exit 0 ∧ vs = VS b b.sl ∧ bs = BS n l b i j (shrL b (l i) (l j) ((b.sl : Int) - s.1).toNat s.1 s.2)

theorem LS0_ok : LSound Try.prog true (.block 0 (.loop (loopB 0 (bodyOf Try.prog 35)))) 80 (LS0 n l b i j) := by
  by_cases hi : OkS n l b i j
  · obtain ⟨hb, ⟨hi0, hi1⟩, hj0, hj1⟩ := hi
    have sx := srcOk_of hb hi0 hi1
    have sy := srcOk_of hb hj0 hj1
    have sb := susOk_of hb
    have hsl := sb.vl
    refine loop_row hmix good48 (un := 10) (ds := dsS) (ns := nsS) (nx := 8) (fun s : Int × Shr => VS b s.1) (fun s => BS n l b i j s.2) (fun s => 0 ≤ s.1 ∧ s.1 ≤ b.sl ∧ Bd s.2) (fun s => ((b.sl : Int) - s.1).toNat) (OS0 n l b i j) noL_ok ?_ ?_
    · rintro ⟨k, s⟩ ⟨h0, h1, h2⟩
      dsimp only at h0 h1 h2
      rw [s0_ev]
      by_cases hlt : k < b.sl
      · have hx := sx.val k h0 (by rw [← sx.vl]; exact hlt)
        have hy := sy.val k h0 (by rw [← sy.vl]; exact hlt)
        have hv := sb.val k h0 hlt
        have vx := sx.vl
        have vy := sy.vl
        refine cond_dk hlt (cond_dk ⟨h0, hlt⟩ ⟨⟨rfl, by omega, by omega⟩, cond_dk ⟨h0, by omega⟩ ⟨⟨i, rfl, hi0, hi1, by omega, by omega⟩, cond_dk ⟨h0, by omega⟩ ⟨⟨j, rfl, hj0, hj1, by omega, by omega⟩, ?_⟩⟩⟩)
        simp only [Int.zero_add, at1, kLo, kHi]
        have b1 : bdI 1048576 ((l i).hi k) := by unfold bdI; omega
        have b2 : bdI 1048576 ((l j).hi k) := by unfold bdI; omega
        have b3 : bdI 1048576 (b.lo k) := by unfold bdI; omega
        have b4 : bdI 1048576 (0 - (l i).lo k) := by unfold bdI; omega
        have b5 : bdI 1048576 (0 - (l j).lo k) := by unfold bdI; omega
        have b6 : bdI 1048576 (0 - b.hi k) := by unfold bdI; omega
        have hB := atF_bd h2 (bdI_sub b1 b2) (bdI_sub b3 b2)
        refine ⟨⟨h2, b1, b2, b3⟩, cond_dk ⟨h0, by omega⟩ ⟨⟨i, rfl, hi0, hi1, by omega, by omega⟩, cond_r (by omega) (cond_dk ⟨h0, by omega⟩ ⟨⟨j, rfl, hj0, hj1, by omega, by omega⟩, cond_r (by omega) (cond_r (by omega) ⟨⟨hB, b4, b5, b6⟩, cond_r (by omega) ?_⟩)⟩)⟩⟩
        refine ⟨(k + 1, shrK b (l i) (l j) s k), ⟨by dsimp only; omega, by dsimp only; omega, atF_bd hB (bdI_sub b4 b5) (bdI_sub b6 b5)⟩, by dsimp only; omega, rfl, ⟨VB.fit_refl _, VB.fit_refl _, VB.fit_refl _, VB.fit_refl _, VB.fit_refl _, VB.fit_refl _, VB.fit_refl _, VB.fit_refl _, trivial⟩, ?_⟩
        rintro e vs bs ⟨rfl, rfl, rfl⟩
        refine ⟨rfl, rfl, ?_⟩
        dsimp only
        rw [shrL_step hlt]
      · refine cond_d (fun h => absurd h hlt) (fun _ => ?_)
        have : k = b.sl := by omega
        subst this
        refine ⟨rfl, rfl, ?_⟩
        have : ((b.sl : Int) - b.sl).toNat = 0 := by omega
        dsimp only
        rw [this]; rfl
    · rintro lock t h K ⟨hf, _, hK⟩
      refine ⟨(0, shr0 b (l i) (l j)), hf, ⟨by simp, by simp, ?_⟩, ?_⟩
      · have := sx.str
        have := sy.str
        have := sb.str
        refine atF_bd ⟨?_, ?_, ?_, ?_⟩ ?_ ?_ <;> (unfold bdI; first | (simp only [mkS]; omega) | omega)
      · rintro e vs bs ⟨rfl, rfl, rfl⟩
        have : ((b.sl : Int) - 0).toNat = b.sl := by omega
        simp only [this]
        exact hK
  · rintro lock t h K ⟨hf, hc, hK⟩
    exact (hi hc).elim

theorem sh35_v (hi : OkS n l b i j) : ∃ h', CallsV Try.prog 35 [bV b, sV l i, sV l j] (bH n l b) (.ret (shV (sharedF b (l i) (l j)))) h' ∧ h'.at 0 = srcA n l ∧ h'.at 1 = valA n l ∧ h'.at 2 = seenA b := by
  obtain ⟨hb, ⟨hi0, hi1⟩, hj0, hj1⟩ := id hi
  have sx := (srcOk_of hb hi0 hi1).str
  have sy := (srcOk_of hb hj0 hj1).str
  have sb := (susOk_of hb).str
  have hsp := spBL_ok hmix (tabs_ok (l := [at48T]) (by
      intro x hx
      simp only [List.mem_singleton] at hx
      subst hx
      exact at48T_ok)) (f := 35) (lo_one (by kernel_rfl) (LS0_ok (n := n) (l := l) (b := b) (i := i) (j := j))) (un := 10) (fu := 20)
  obtain ⟨r, h', hQ, hc⟩ := of_sp hsp (args := [bV b, sV l i, sV l j]) (h := bH n l b) (K := fun r h' => r = .ret (shV (sharedF b (l i) (l j))) ∧ h'.at 0 = srcA n l ∧ h'.at 1 = valA n l ∧ h'.at 2 = seenA b)
    (by
      rw [f35_ev]
      refine ⟨⟨⟨?_, ?_, ?_, ?_⟩, ?_, ?_, ?_⟩, fitP_self rfl, hi, rfl, rfl, rfl, rfl⟩ <;> (unfold bdI; first | (simp only [mkS]; omega) | omega))
  obtain ⟨rfl, hh⟩ := hQ
  exact ⟨h', hc, hh⟩

/-- shared as a row. -/
def sharedT (n : Nat) (l : Int → Src) (b : Sus) : FuncId × Spec1 := (35, fun _ args h K => match args with
  | [.agg [.int .i64 g, .int .i64 p, .int .i64 s, .int .i64 t, .slice (.el 2 [] 0 0) m c], .agg [.int .i64 ck, .int .i64 dr, .int .i64 lo, .int .i64 hi, .slice (.el 1 [i] 0 0) m2 c2], .agg [.int .i64 ck', .int .i64 dr', .int .i64 lo', .int .i64 hi', .slice (.el 1 [j] 0 0) m2' c2']] =>
    ((h.at 0 = srcA n l ∧ h.at 1 = valA n l ∧ h.at 2 = seenA b) ∧ ([bV b, sV l i, sV l j] = [.agg [I g, I p, I s, I t, .slice (.el 2 [] 0 0) m c], .agg [I ck, I dr, I lo, I hi, .slice (.el 1 [i] 0 0) m2 c2], .agg [I ck', I dr', I lo', I hi', .slice (.el 1 [j] 0 0) m2' c2']]) ∧ OkS n l b i j) ∧ K (.ret (shV (sharedF b (l i) (l j)))) h
  | _ => False)

theorem sharedT_ok : SpOk Try.prog (sharedT n l b).1 (sharedT n l b).2 := by
  intro lock args h K hK
  simp only [sharedT] at hK
  split at hK
  · obtain ⟨⟨hh, ha, hi⟩, hK⟩ := hK
    obtain ⟨h', hc, hs⟩ := sh35_v hi
    rw [ha] at hc
    exact ⟨_, h, hK, lockP_refl _ _, base_lift hc hh hs rfl rfl⟩
  · exact hK.elim
end
end Go.Sx.Gen

/- genuine: lowest terms, evaluated. -/

namespace Go.Sx.Gen
open Go Go.Sx Go.Proofs
set_option maxRecDepth 100000

/-- The loop of lowest. -/
def dsL : List Nat := [5, 6, 0, 1, 4]
def VL (x y a c : Int) : List VV := [I x, I y, I a, I c, .ptr (.own 0 0)]
def hL : List VB := [.cells [I 0, I 0] 35]
def L49 : LT := fun lock t h K => match look t 5, look t 6, look t 0, look t 1 with
  | .int .i64 x, .int .i64 y, .int .i64 a, .int .i64 c => (FitP lock h t ⟨1, [0].zip hL⟩ (dsL.zip (VL x y a c)) ∧ 0 ≤ x ∧ 0 ≤ y ∧ y ≤ 4194304) ∧ K .normal (dsL.zip (VL (Int.gcd x y) 0 a c)) ⟨1, [0].zip hL⟩
  | _, _, _, _ => False

/-- The loop of portion. -/
def dsP : List Nat := [3, 4, 1, 2]
def VP (x y : Int) : List VV := [I x, I y, .ptr (.own 0 0), .ptr (.own 1 0)]
def hP (a c : Int) : List VB := [.cells [I a, I c] 73, .cells [I 0, I 0] 35]
def L36 (a c : Int) : LT := fun lock t h K => match look t 3, look t 4 with
  | .int .i64 x, .int .i64 y => (FitP lock h t ⟨2, [0, 1].zip (hP a c)⟩ (dsP.zip (VP x y)) ∧ 0 ≤ x ∧ 0 ≤ y ∧ y ≤ 4194304) ∧ K .normal (dsP.zip (VP (Int.gcd x y) 0)) ⟨2, [0, 1].zip (hP a c)⟩
  | _, _ => False

theorem g49_ev (x y a c : Int) (X : VEx → List VV → List VB → Prop) : codeE Try.prog (callN Try.prog noSpec noL 10 20) (fun _ => none) true 10 31 0 (loopB 0 (bodyOf Try.prog 49)) (dsL.zip (VL x y a c)) ⟨1, [0].zip hL⟩ (obs 1 dsL [0] X) =
  (bif decide (y > (0 : Int)) then
 bif decide (y = (0 : Int)) then
 False
 else X VEx.normal [I y, I (remZ x y), I a, I c, VV.ptr (VA.own 0 0)] [VB.cells [I 0, I 0] (35 : TypeId)]
 else X (VEx.exit 0) [I x, I y, I a, I c, VV.ptr (VA.own 0 0)] [VB.cells [I 0, I 0] (35 : TypeId)]) := by kernel_rfl

theorem g36_ev (x y a c : Int) (X : VEx → List VV → List VB → Prop) : codeE Try.prog (callN Try.prog noSpec noL 10 20) (fun _ => none) true 10 28 0 (loopB 0 (bodyOf Try.prog 36)) (dsP.zip (VP x y)) ⟨2, [0, 1].zip (hP a c)⟩ (obs 2 dsP [0, 1] X) =
  (bif !decide (y = (0 : Int)) then
 bif decide (y = (0 : Int)) then
 False
 else X VEx.normal [I y, I (remZ x y), VV.ptr (VA.own 0 0), VV.ptr (VA.own 1 0)] [VB.cells [I a, I c] (73 : TypeId), VB.cells [I 0, I 0] (35 : TypeId)]
 else X (VEx.exit 0) [I x, I y, VV.ptr (VA.own 0 0), VV.ptr (VA.own 1 0)] [VB.cells [I a, I c] (73 : TypeId), VB.cells [I 0, I 0] (35 : TypeId)]) := by kernel_rfl

theorem f49_ev (a c : Int) (Q : VRes → VH → Prop) : spBL Try.prog 49 noSpec [(0, L49)] 10 20 0 [I a, I c] ⟨0, []⟩ Q =
  (bif decide (c < (0 : Int)) then
 bif inK IntKind.i64 ((0 : Int) - a) then
 bif inK IntKind.i64 ((0 : Int) - c) then
 bif inK IntKind.i64 ((0 : Int) - ((0 : Int) - a)) then
 (FitP 0 (VH.mk (1) ([0].zip hL)) (dsL.zip (VL (max ((0 : Int) - a) ((0 : Int) - ((0 : Int) - a))) ((0 : Int) - c) ((0 : Int) - a) ((0 : Int) - c))) (VH.mk (1) ([0].zip hL)) (dsL.zip (VL (max ((0 : Int) - a) ((0 : Int) - ((0 : Int) - a))) ((0 : Int) - c) ((0 : Int) - a) ((0 : Int) - c))) ∧ (0 : Int) ≤ max ((0 : Int) - a) ((0 : Int) - ((0 : Int) - a)) ∧ (0 : Int) ≤ (0 : Int) - c ∧ (0 : Int) - c ≤ (4194304 : Int)) ∧ bif decide ((↑((max ((0 : Int) - a) ((0 : Int) - ((0 : Int) - a))).gcd ((0 : Int) - c)) : Int) = (0 : Int)) then
 False
 else bif inK IntKind.i64 (quoZ ((0 : Int) - a) (↑((max ((0 : Int) - a) ((0 : Int) - ((0 : Int) - a))).gcd ((0 : Int) - c)) : Int)) then
 bif decide ((↑((max ((0 : Int) - a) ((0 : Int) - ((0 : Int) - a))).gcd ((0 : Int) - c)) : Int) = (0 : Int)) then
 False
 else bif inK IntKind.i64 (quoZ ((0 : Int) - c) (↑((max ((0 : Int) - a) ((0 : Int) - ((0 : Int) - a))).gcd ((0 : Int) - c)) : Int)) then
 Q (VRes.ret (VV.agg [I (quoZ ((0 : Int) - a) (↑((max ((0 : Int) - a) ((0 : Int) - ((0 : Int) - a))).gcd ((0 : Int) - c)) : Int)), I (quoZ ((0 : Int) - c) (↑((max ((0 : Int) - a) ((0 : Int) - ((0 : Int) - a))).gcd ((0 : Int) - c)) : Int))])) (VH.mk (1) ([(0, VB.cells [I (quoZ ((0 : Int) - a) (↑((max ((0 : Int) - a) ((0 : Int) - ((0 : Int) - a))).gcd ((0 : Int) - c)) : Int)), I (quoZ ((0 : Int) - c) (↑((max ((0 : Int) - a) ((0 : Int) - ((0 : Int) - a))).gcd ((0 : Int) - c)) : Int))] (35 : TypeId)), (0, VB.cells [I 0, I 0] (35 : TypeId))]))
 else False
 else False
 else False
 else False
 else False
 else bif inK IntKind.i64 ((0 : Int) - a) then
 (FitP 0 (VH.mk (1) ([0].zip hL)) (dsL.zip (VL (max a ((0 : Int) - a)) c a c)) (VH.mk (1) ([0].zip hL)) (dsL.zip (VL (max a ((0 : Int) - a)) c a c)) ∧ (0 : Int) ≤ max a ((0 : Int) - a) ∧ (0 : Int) ≤ c ∧ c ≤ (4194304 : Int)) ∧ bif decide ((↑((max a ((0 : Int) - a)).gcd c) : Int) = (0 : Int)) then
 False
 else bif inK IntKind.i64 (quoZ a (↑((max a ((0 : Int) - a)).gcd c) : Int)) then
 bif decide ((↑((max a ((0 : Int) - a)).gcd c) : Int) = (0 : Int)) then
 False
 else bif inK IntKind.i64 (quoZ c (↑((max a ((0 : Int) - a)).gcd c) : Int)) then
 Q (VRes.ret (VV.agg [I (quoZ a (↑((max a ((0 : Int) - a)).gcd c) : Int)), I (quoZ c (↑((max a ((0 : Int) - a)).gcd c) : Int))])) (VH.mk (1) ([(0, VB.cells [I (quoZ a (↑((max a ((0 : Int) - a)).gcd c) : Int)), I (quoZ c (↑((max a ((0 : Int) - a)).gcd c) : Int))] (35 : TypeId)), (0, VB.cells [I 0, I 0] (35 : TypeId))]))
 else False
 else False
 else False) := by kernel_rfl

theorem f36_ev (a c : Int) (Q : VRes → VH → Prop) : spBL Try.prog 36 noSpec [(0, L36 a c)] 10 20 0 [.agg [I a, I c]] ⟨0, []⟩ Q =
  (bif inK IntKind.i64 ((0 : Int) - a) then
 (FitP 0 (VH.mk (2) ([0, 1].zip (hP a c))) (dsP.zip (VP c (max a ((0 : Int) - a)))) (VH.mk (2) ([0, 1].zip (hP a c))) (dsP.zip (VP c (max a ((0 : Int) - a)))) ∧ (0 : Int) ≤ c ∧ (0 : Int) ≤ max a ((0 : Int) - a) ∧ max a ((0 : Int) - a) ≤ (4194304 : Int)) ∧ bif decide ((↑(c.gcd (max a ((0 : Int) - a))) : Int) = (0 : Int)) then
 False
 else bif inK IntKind.i64 (quoZ a (↑(c.gcd (max a ((0 : Int) - a))) : Int)) then
 bif decide ((↑(c.gcd (max a ((0 : Int) - a))) : Int) = (0 : Int)) then
 False
 else bif inK IntKind.i64 (quoZ c (↑(c.gcd (max a ((0 : Int) - a))) : Int)) then
 Q (VRes.ret (VV.agg [I (quoZ a (↑(c.gcd (max a ((0 : Int) - a))) : Int)), I (quoZ c (↑(c.gcd (max a ((0 : Int) - a))) : Int))])) (VH.mk (2) ([(1, VB.cells [I (quoZ a (↑(c.gcd (max a ((0 : Int) - a))) : Int)), I (quoZ c (↑(c.gcd (max a ((0 : Int) - a))) : Int))] (35 : TypeId)), (0, VB.cells [I a, I c] (73 : TypeId)), (1, VB.cells [I 0, I 0] (35 : TypeId))]))
 else False
 else False
 else False) := by kernel_rfl


end Go.Sx.Gen

/- genuine: lowest terms. -/

namespace Go.Sx.Gen
open Go Go.Sx Go.Proofs
set_option maxRecDepth 100000

/-- A fraction in lowest terms. -/
def redF (a c : Int) : Int × Int := (a / (Int.gcd a c : Int), c / (Int.gcd a c : Int))
def lowF (a c : Int) : Int × Int := if c < 0 then redF (0 - a) (0 - c) else redF a c

theorem gcd_round {x y : Int} (hx : 0 ≤ x) (hy : 0 < y) : (Int.gcd y (remZ x y) : Int) = Int.gcd x y ∧ 0 ≤ remZ x y ∧ remZ x y < y := by
  rw [remZ_nn hx]
  refine ⟨?_, Int.emod_nonneg _ (by omega), Int.emod_lt_of_pos _ hy⟩
  congr 1
  unfold Int.gcd
  rw [Int.natAbs_emod_of_nonneg hx, Nat.gcd_comm x.natAbs, Nat.gcd_comm y.natAbs (x.natAbs % y.natAbs)]
  exact (Nat.gcd_rec y.natAbs x.natAbs).symm

theorem gcd_max (a c : Int) : Int.gcd (max a (0 - a)) c = Int.gcd a c := by
  unfold Int.gcd
  congr 1
  omega

theorem gcd_pos {a c : Int} (h : 0 < c) : 0 < (Int.gcd a c : Int) := by
  have : 0 < Int.gcd a c := Int.gcd_pos_of_ne_zero_right a (by omega)
  omega

/-- What dividing by the greatest divisor does. -/
theorem red_bd {a c : Int} (h : 0 < c) (ha : bdI 4194304 a) (hc : bdI 4194304 c) : quoZ a (Int.gcd a c : Int) = (redF a c).1 ∧ quoZ c (Int.gcd a c : Int) = (redF a c).2 ∧ bdI 4194304 (redF a c).1 ∧ 0 < (redF a c).2 ∧ (redF a c).2 ≤ 4194304 := by
  have hg := gcd_pos (a := a) h
  have d1 : (Int.gcd a c : Int) ∣ a := Int.gcd_dvd_left a c
  have d2 : (Int.gcd a c : Int) ∣ c := Int.gcd_dvd_right a c
  have q1 : quoZ a (Int.gcd a c : Int) = (redF a c).1 := Int.tdiv_eq_ediv_of_dvd d1
  have q2 : quoZ c (Int.gcd a c : Int) = (redF a c).2 := Int.tdiv_eq_ediv_of_dvd d2
  refine ⟨q1, q2, ?_, ?_, ?_⟩
  · have h1 : (redF a c).1 * (Int.gcd a c : Int) = a := Int.ediv_mul_cancel d1
    have h2 : (redF a c).1.natAbs * (Int.gcd a c) = a.natAbs := by
      have := congrArg Int.natAbs h1
      rwa [Int.natAbs_mul] at this
    have h3 : (redF a c).1.natAbs ≤ a.natAbs := by
      rw [← h2]; exact Nat.le_mul_of_pos_right _ (by omega)
    unfold bdI at *; omega
  · have h1 : (redF a c).2 * (Int.gcd a c : Int) = c := Int.ediv_mul_cancel d2
    rcases Int.lt_or_le 0 (redF a c).2 with h2 | h2
    · exact h2
    · have := Int.mul_nonpos_of_nonpos_of_nonneg h2 (Int.le_of_lt hg)
      omega
  · have h1 : (redF a c).2 * (Int.gcd a c : Int) = c := Int.ediv_mul_cancel d2
    have h2 : (redF a c).2.natAbs * (Int.gcd a c) = c.natAbs := by
      have := congrArg Int.natAbs h1
      rwa [Int.natAbs_mul] at this
    have h3 : (redF a c).2.natAbs ≤ c.natAbs := by
      rw [← h2]; exact Nat.le_mul_of_pos_right _ (by omega)
    unfold bdI at *; omega

def OL (a c : Int) (s : Int × Int) (e : VEx) (vs : List VV) (bs : List VB) : Prop := e = .exit 0 ∧ vs = VL (Int.gcd s.1 s.2) 0 a c ∧ bs = hL
def OP (a c : Int) (s : Int × Int) (e : VEx) (vs : List VV) (bs : List VB) : Prop := e = .exit 0 ∧ vs = VP (Int.gcd s.1 s.2) 0 ∧ bs = hP a c

theorem L49_ok : LSound Try.prog true (.block 0 (.loop (loopB 0 (bodyOf Try.prog 49)))) 31 L49 := by
  have key : ∀ a c : Int, LSound Try.prog true (.block 0 (.loop (loopB 0 (bodyOf Try.prog 49)))) 31 (fun lock t h K => ∃ x y, (FitP lock h t ⟨1, [0].zip hL⟩ (dsL.zip (VL x y a c)) ∧ 0 ≤ x ∧ 0 ≤ y ∧ y ≤ 4194304) ∧ K .normal (dsL.zip (VL (Int.gcd x y) 0 a c)) ⟨1, [0].zip hL⟩) := by
    intro a c
    refine loop_row hmix good0 (un := 10) (ds := dsL) (ns := [0]) (nx := 1) (fun s : Int × Int => VL s.1 s.2 a c) (fun _ => hL) (fun s => 0 ≤ s.1 ∧ 0 ≤ s.2) (fun s => s.2.toNat) (OL a c) noL_ok ?_ ?_
    · rintro ⟨x, y⟩ ⟨h0, h1⟩
      dsimp only at h0 h1
      rw [g49_ev]
      refine cond_d (fun h => cond_d (fun h2 => by omega) (fun _ => ?_)) (fun h => ?_)
      · obtain ⟨g1, g2, g3⟩ := gcd_round (x := x) (y := y) h0 h
        refine ⟨(y, remZ x y), ⟨by dsimp only; omega, g2⟩, by dsimp only; omega, rfl, fitBs_refl _, ?_⟩
        rintro e vs bs ⟨rfl, rfl, rfl⟩
        refine ⟨rfl, ?_, rfl⟩
        dsimp only
        rw [g1]
      · have : y = 0 := by omega
        subst this
        refine ⟨rfl, ?_, rfl⟩
        dsimp only
        rw [Int.gcd_zero_right, show (x.natAbs : Int) = x by omega]
        rfl
    · rintro lock t h K ⟨x, y, ⟨hf, h0, h1, _⟩, hK⟩
      refine ⟨(x, y), hf, ⟨h0, h1⟩, ?_⟩
      rintro e vs bs ⟨rfl, rfl, rfl⟩
      exact hK
  intro lock t h K hK
  unfold L49 at hK
  split at hK
  · exact key _ _ _ _ _ _ ⟨_, _, hK⟩
  · exact hK.elim

theorem L36_ok {a c : Int} : LSound Try.prog true (.block 0 (.loop (loopB 0 (bodyOf Try.prog 36)))) 28 (L36 a c) := by
  have key : LSound Try.prog true (.block 0 (.loop (loopB 0 (bodyOf Try.prog 36)))) 28 (fun lock t h K => ∃ x y, (FitP lock h t ⟨2, [0, 1].zip (hP a c)⟩ (dsP.zip (VP x y)) ∧ 0 ≤ x ∧ 0 ≤ y ∧ y ≤ 4194304) ∧ K .normal (dsP.zip (VP (Int.gcd x y) 0)) ⟨2, [0, 1].zip (hP a c)⟩) := by
    refine loop_row hmix good0 (un := 10) (ds := dsP) (ns := [0, 1]) (nx := 2) (fun s : Int × Int => VP s.1 s.2) (fun _ => hP a c) (fun s => 0 ≤ s.1 ∧ 0 ≤ s.2) (fun s => s.2.toNat) (OP a c) noL_ok ?_ ?_
    · rintro ⟨x, y⟩ ⟨h0, h1⟩
      dsimp only at h0 h1
      rw [g36_ev]
      refine cond_nd (fun h => cond_d (fun h2 => by omega) (fun _ => ?_)) (fun h => ?_)
      · obtain ⟨g1, g2, g3⟩ := gcd_round (x := x) (y := y) h0 (by omega)
        refine ⟨(y, remZ x y), ⟨by dsimp only; omega, g2⟩, by dsimp only; omega, rfl, fitBs_refl _, ?_⟩
        rintro e vs bs ⟨rfl, rfl, rfl⟩
        refine ⟨rfl, ?_, rfl⟩
        dsimp only
        rw [g1]
      · subst h
        refine ⟨rfl, ?_, rfl⟩
        dsimp only
        rw [Int.gcd_zero_right, show (x.natAbs : Int) = x by omega]
        rfl
    · rintro lock t h K ⟨x, y, ⟨hf, h0, h1, _⟩, hK⟩
      refine ⟨(x, y), hf, ⟨h0, h1⟩, ?_⟩
      rintro e vs bs ⟨rfl, rfl, rfl⟩
      exact hK
  intro lock t h K hK
  unfold L36 at hK
  split at hK
  · exact key _ _ _ _ ⟨_, _, hK⟩
  · exact hK.elim

theorem low_v {a c : Int} (ha : bdI 4194304 a) (hc : bdI 4194304 c) (h0 : c ≠ 0) : ∃ h', CallsV Try.prog 49 [I a, I c] ⟨0, []⟩ (.ret (.agg [I (lowF a c).1, I (lowF a c).2])) h' := by
  have hsp := spBL_ok (sp := noSpec) hmix (fun _ _ h => absurd h (by simp [noSpec])) (f := 49) (lo_one (by kernel_rfl) L49_ok) (un := 10) (fu := 20)
  obtain ⟨r, h', hQ, hcc⟩ := of_sp hsp (args := [I a, I c]) (h := ⟨0, []⟩) (K := fun r h' => r = .ret (.agg [I (lowF a c).1, I (lowF a c).2]))
    (by
      rw [f49_ev]
      unfold lowF
      refine cond_d (fun h => ?_) (fun h => ?_)
      · rw [if_pos h, gcd_max]
        have ha' : bdI 4194304 (0 - a) := by unfold bdI at *; omega
        have hc' : bdI 4194304 (0 - c) := by unfold bdI at *; omega
        obtain ⟨q1, q2, b1, b2, b3⟩ := red_bd (show 0 < 0 - c by omega) ha' hc'
        have hg := gcd_pos (a := 0 - a) (show 0 < 0 - c by omega)
        rw [q1, q2]
        refine cond_r (by unfold bdI at *; omega) (cond_r (by unfold bdI at *; omega) (cond_r (by unfold bdI at *; omega) ⟨⟨fitP_self rfl, by omega, by omega, by unfold bdI at *; omega⟩, cond_d (fun h => by omega) (fun _ => cond_r (by unfold bdI at *; omega) (cond_d (fun h => by omega) (fun _ => cond_r (by omega) rfl)))⟩))
      · rw [if_neg h, gcd_max]
        obtain ⟨q1, q2, b1, b2, b3⟩ := red_bd (show 0 < c by omega) ha hc
        have hg := gcd_pos (a := a) (show 0 < c by omega)
        rw [q1, q2]
        refine cond_r (by unfold bdI at *; omega) ⟨⟨fitP_self rfl, by omega, by omega, by unfold bdI at *; omega⟩, cond_d (fun h => by omega) (fun _ => cond_r (by unfold bdI at *; omega) (cond_d (fun h => by omega) (fun _ => cond_r (by omega) rfl)))⟩)
  subst hQ
  exact ⟨h', hcc⟩

theorem por_v {a c : Int} (ha : bdI 4194304 a) (hc : bdI 4194304 c) (h0 : 0 < c) : ∃ h', CallsV Try.prog 36 [.agg [I a, I c]] ⟨0, []⟩ (.ret (.agg [I (redF a c).1, I (redF a c).2])) h' := by
  have hsp := spBL_ok (sp := noSpec) hmix (fun _ _ h => absurd h (by simp [noSpec])) (f := 36) (lo_one (by kernel_rfl) (L36_ok (a := a) (c := c))) (un := 10) (fu := 20)
  obtain ⟨r, h', hQ, hcc⟩ := of_sp hsp (args := [.agg [I a, I c]]) (h := ⟨0, []⟩) (K := fun r h' => r = .ret (.agg [I (redF a c).1, I (redF a c).2]))
    (by
      rw [f36_ev, Int.gcd_comm, gcd_max]
      obtain ⟨q1, q2, b1, b2, b3⟩ := red_bd h0 ha hc
      have hg := gcd_pos (a := a) h0
      rw [q1, q2]
      refine cond_r (by unfold bdI at *; omega) ⟨⟨fitP_self rfl, by omega, by omega, by unfold bdI at *; omega⟩, cond_d (fun h => by omega) (fun _ => cond_r (by unfold bdI at *; omega) (cond_d (fun h => by omega) (fun _ => cond_r (by omega) rfl)))⟩)
  subst hQ
  exact ⟨h', hcc⟩

def low49T : FuncId × Spec1 := (49, fun _ args h K => match args with
  | [.int .i64 a, .int .i64 c] => (bdI 4194304 a ∧ bdI 4194304 c ∧ c ≠ 0) ∧ K (.ret (.agg [I (lowF a c).1, I (lowF a c).2])) h
  | _ => False)

def por36T : FuncId × Spec1 := (36, fun _ args h K => match args with
  | [.agg [.int .i64 a, .int .i64 c]] => (bdI 4194304 a ∧ bdI 4194304 c ∧ 0 < c) ∧ K (.ret (.agg [I (redF a c).1, I (redF a c).2])) h
  | _ => False)

theorem lift0 {f : FuncId} {args : List VV} {r : VRes} {h h' : VH} (hc : CallsV Try.prog f args ⟨0, []⟩ r h') (ha : belL 0 args = true) (hr : r.bel 0 = true) : CallsV Try.prog f args h r h :=
  calls_lift hc (Nat.zero_le _) (fun m hm => absurd hm (Nat.not_lt_zero m)) (fun m hm => absurd hm (Nat.not_lt_zero m)) (fun m hm => absurd hm (Nat.not_lt_zero m)) (fun m hm => absurd hm (Nat.not_lt_zero m)) ha hr

theorem low49T_ok : SpOk Try.prog low49T.1 low49T.2 := by
  intro lock args h K hK
  simp only [low49T] at hK
  split at hK
  · obtain ⟨⟨h1, h2, h3⟩, hK⟩ := hK
    obtain ⟨h', hc⟩ := low_v h1 h2 h3
    exact ⟨_, h, hK, lockP_refl _ _, lift0 hc rfl rfl⟩
  · exact hK.elim

theorem por36T_ok : SpOk Try.prog por36T.1 por36T.2 := by
  intro lock args h K hK
  simp only [por36T] at hK
  split at hK
  · obtain ⟨⟨h1, h2, h3⟩, hK⟩ := hK
    obtain ⟨h', hc⟩ := por_v h1 h2 h3
    exact ⟨_, h, hK, lockP_refl _ _, lift0 hc rfl rfl⟩
  · exact hK.elim
end Go.Sx.Gen
