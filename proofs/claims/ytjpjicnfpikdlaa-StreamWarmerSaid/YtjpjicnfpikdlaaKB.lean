/- stream: Ka4 Ka5 Ka6 Ka7 Ka8 Ka9, in one text. -/
import Derived.Test.YtjpjicnfpikdlaaKA
/- stream: points of a list, one behind another, evaluated. -/

namespace Go.Sx.Str
open Go Go.Sx Go.Proofs
set_option maxRecDepth 100000

def rfOf : Code → Option (Code × Code)
  | .rangeFunc _ _ ac bd => some (ac, bd)
  | .seq a b => match rfOf a with
    | some r => some r
    | none => rfOf b
  | .block _ b => rfOf b
  | _ => none
def rfAs (P : Program) (f : FuncId) : Code := match rfOf (bodyOf P f) with
  | some (ac, _) => ac
  | none => .skip
def rfBd (P : Program) (f : FuncId) : Code := match rfOf (bodyOf P f) with
  | some (_, bd) => bd
  | none => .skip
noncomputable def as35 : Code := rfAs Try.prog 35
noncomputable def bd35 : Code := rfBd Try.prog 35
abbrev fF : VV := .func 51 [] [.ptr (.own 5 0), .ptr (.own 6 0), .ptr (.own 7 0)]
def sl35 (w : Wt) : Slots := [(14, fF), (7, .ptr (.own 13 0)), (13, .ptr (.own 12 0)), (12, .agg (wtL w)), (11, .agg (wtL w)), (6, .ptr (.own 11 0)), (5, .ptr (.own 10 0)), (4, .ptr (.own 9 0)), (2, .ptr (.own 8 0)), (0, .agg (wtL w)), (1, fF)]
noncomputable def rec35 (w : Wt) : VB := .loop true none (sl35 w) 67 [15, 16] as35 bd35
noncomputable def rec35r (w : Wt) : VB := .loop false (some .ret) (sl35 w) 67 [15, 16] as35 bd35
def dsF : List Nat := [10, 5, 9, 0, 1, 2, 3]
def VF (n : Nat) (i k : Int) : List VV := [I i, I k, I (n + 1), .yld 14, .ptr (.own 5 0), .ptr (.own 6 0), .ptr (.own 7 0)]
def nsF : List Nat := [0, 5, 6, 7, 9, 10, 11, 12, 13, 14, 15]
noncomputable def BFl (n cap : Nat) (l : Int → Pt) (f : Wt) (w : Wt) (xs : List Wt) : List VB := [ptsA n l, .cells [.slice (.el 0 [] 0 0) n cap] 26, .cells [I (-1)] 3, .cells [.nilp] 78, .cells [.sl 15 xs.length] 29, .cells [I 0] 3, .cells [I 0] 30, .cells (wtL w) 89, .cells [.ptr (.own 12 0)] 87, rec35 f, vecW xs]
def tSt : List (FuncId × Spec1) := [spanT 49, meanT, upT 80]

theorem w0_ev (n cap : Nat) (l : Int → Pt) (f w : Wt) (xs : List Wt) (i k : Int) (X : VEx → List VV → List VB → Prop) : codeE Try.prog (callN Try.prog (tabS tSt) noL 10 20) (fun _ => none) true 10 44 0 (loopB 0 (bodyOf Try.prog 51)) (dsF.zip (VF n i k)) ⟨16, nsF.zip (BFl n cap l f w xs)⟩ (obs 16 dsF nsF X) =
  (bif decide (i < (↑n : Int) + (1 : Int)) then
 bif decide (i = (-1 : Int)) then
 bif decide (i < (↑n : Int)) then
 bif decide ((0 : Int) ≤ i ∧ i < (↑n : Int)) then
 (([] : List Int) = [] ∧ (0 : Int) ≤ (0 : Int) + i ∧ (0 : Int) + i < (↑n : Int)) ∧ bif decide ((l ((0 : Int) + i)).k = (0 : Int)) then
 bif spanB (l ((0 : Int) + i)).flo (l ((0 : Int) + i)).fhi (1 : Int) (1073741824 : Int) then
 bif !spanB (l ((0 : Int) + i)).wlo (l ((0 : Int) + i)).whi (0 : Int) (100000 : Int) then
 X VEx.ret [I i, I k, I ((↑n : Int) + (1 : Int)), VV.yld 14, VV.ptr (VA.own 5 0), VV.ptr (VA.own 6 0), VV.ptr (VA.own 7 0)] [ptsA n l, VB.cells [VV.slice (VA.el 0 [] (0 : Int) 0) n cap] (26 : TypeId), VB.cells [I (-1)] (3 : TypeId), VB.cells [VV.nilp] (78 : TypeId), VB.cells [VV.nils] (29 : TypeId), VB.cells [I k] (3 : TypeId), VB.cells [I 1] (30 : TypeId), VB.cells [I w.flo, I w.fhi, I w.wlo, I w.whi] (89 : TypeId), VB.cells [VV.ptr (VA.own 12 0)] (87 : TypeId), VB.loop false (some VEx.ret) (sl35 f) 67 [15, 16] as35 bd35, VB.vec xs.length (fun j => wtL (xs.getD j w0)) 4 (25 : TypeId)]
 else bif decide ((l ((0 : Int) + i)).wlo < w.wlo) then
 bif decide ((l ((0 : Int) + i)).whi < w.whi) then
 meanOk w.wlo w.flo (l ((0 : Int) + i)).wlo (l ((0 : Int) + i)).fhi ∧ meanOk w.whi w.fhi (l ((0 : Int) + i)).whi (l ((0 : Int) + i)).flo ∧ bif inK IntKind.i64 (w.flo + (l ((0 : Int) + i)).flo) then
 bif inK IntKind.i64 (w.fhi + (l ((0 : Int) + i)).fhi) then
 bif decide (w.flo + (l ((0 : Int) + i)).flo < (1 : Int)) then
 X VEx.ret [I i, I k, I ((↑n : Int) + (1 : Int)), VV.yld 14, VV.ptr (VA.own 5 0), VV.ptr (VA.own 6 0), VV.ptr (VA.own 7 0)] [ptsA n l, VB.cells [VV.slice (VA.el 0 [] (0 : Int) 0) n cap] (26 : TypeId), VB.cells [I (-1)] (3 : TypeId), VB.cells [VV.nilp] (78 : TypeId), VB.cells [VV.nils] (29 : TypeId), VB.cells [I k] (3 : TypeId), VB.cells [I 10] (30 : TypeId), VB.cells [I (w.flo + (l ((0 : Int) + i)).flo), I (w.fhi + (l ((0 : Int) + i)).fhi), I (mD w.wlo w.flo (l ((0 : Int) + i)).wlo (l ((0 : Int) + i)).fhi), I (mU w.whi w.fhi (l ((0 : Int) + i)).whi (l ((0 : Int) + i)).flo)] (89 : TypeId), VB.cells [VV.ptr (VA.own 12 0)] (87 : TypeId), VB.loop false (some VEx.ret) (sl35 f) 67 [15, 16] as35 bd35, VB.vec xs.length (fun j => wtL (xs.getD j w0)) 4 (25 : TypeId)]
 else bif decide (w.fhi + (l ((0 : Int) + i)).fhi > (1073741824 : Int)) then
 X VEx.ret [I i, I k, I ((↑n : Int) + (1 : Int)), VV.yld 14, VV.ptr (VA.own 5 0), VV.ptr (VA.own 6 0), VV.ptr (VA.own 7 0)] [ptsA n l, VB.cells [VV.slice (VA.el 0 [] (0 : Int) 0) n cap] (26 : TypeId), VB.cells [I (-1)] (3 : TypeId), VB.cells [VV.nilp] (78 : TypeId), VB.cells [VV.nils] (29 : TypeId), VB.cells [I k] (3 : TypeId), VB.cells [I 12] (30 : TypeId), VB.cells [I (w.flo + (l ((0 : Int) + i)).flo), I (w.fhi + (l ((0 : Int) + i)).fhi), I (mD w.wlo w.flo (l ((0 : Int) + i)).wlo (l ((0 : Int) + i)).fhi), I (mU w.whi w.fhi (l ((0 : Int) + i)).whi (l ((0 : Int) + i)).flo)] (89 : TypeId), VB.cells [VV.ptr (VA.own 12 0)] (87 : TypeId), VB.loop false (some VEx.ret) (sl35 f) 67 [15, 16] as35 bd35, VB.vec xs.length (fun j => wtL (xs.getD j w0)) 4 (25 : TypeId)]
 else bif decide (mU w.whi w.fhi (l ((0 : Int) + i)).whi (l ((0 : Int) + i)).flo > (100000 : Int)) then
 X VEx.ret [I i, I k, I ((↑n : Int) + (1 : Int)), VV.yld 14, VV.ptr (VA.own 5 0), VV.ptr (VA.own 6 0), VV.ptr (VA.own 7 0)] [ptsA n l, VB.cells [VV.slice (VA.el 0 [] (0 : Int) 0) n cap] (26 : TypeId), VB.cells [I (-1)] (3 : TypeId), VB.cells [VV.nilp] (78 : TypeId), VB.cells [VV.nils] (29 : TypeId), VB.cells [I k] (3 : TypeId), VB.cells [I 12] (30 : TypeId), VB.cells [I (w.flo + (l ((0 : Int) + i)).flo), I (w.fhi + (l ((0 : Int) + i)).fhi), I (mD w.wlo w.flo (l ((0 : Int) + i)).wlo (l ((0 : Int) + i)).fhi), I (mU w.whi w.fhi (l ((0 : Int) + i)).whi (l ((0 : Int) + i)).flo)] (89 : TypeId), VB.cells [VV.ptr (VA.own 12 0)] (87 : TypeId), VB.loop false (some VEx.ret) (sl35 f) 67 [15, 16] as35 bd35, VB.vec xs.length (fun j => wtL (xs.getD j w0)) 4 (25 : TypeId)]
 else bif xs.length.beq xs.length then
 bif roomB (xs.length + 1) (32) then
 bif inK IntKind.i64 (k + (1 : Int)) then
 bif inK IntKind.i64 (i + (1 : Int)) then
 X VEx.normal [I (i + (1 : Int)), I (k + (1 : Int)), I ((↑n : Int) + (1 : Int)), VV.yld 14, VV.ptr (VA.own 5 0), VV.ptr (VA.own 6 0), VV.ptr (VA.own 7 0)] [ptsA n l, VB.cells [VV.slice (VA.el 0 [] (0 : Int) 0) n cap] (26 : TypeId), VB.cells [I (-1)] (3 : TypeId), VB.cells [VV.nilp] (78 : TypeId), VB.cells [VV.sl 15 (xs.length + 1)] (29 : TypeId), VB.cells [I 0] (3 : TypeId), VB.cells [I 0] (30 : TypeId), VB.cells [I (w.flo + (l ((0 : Int) + i)).flo), I (w.fhi + (l ((0 : Int) + i)).fhi), I (mD w.wlo w.flo (l ((0 : Int) + i)).wlo (l ((0 : Int) + i)).fhi), I (mU w.whi w.fhi (l ((0 : Int) + i)).whi (l ((0 : Int) + i)).flo)] (89 : TypeId), VB.cells [VV.ptr (VA.own 12 0)] (87 : TypeId), VB.loop true none (sl35 f) 67 [15, 16] as35 bd35, VB.vec (xs.length + 1) (catG xs.length (fun j => wtL (xs.getD j w0)) fun j => List.take (4) (List.drop (j * (4)) [I (w.flo + (l ((0 : Int) + i)).flo), I (w.fhi + (l ((0 : Int) + i)).fhi), I (mD w.wlo w.flo (l ((0 : Int) + i)).wlo (l ((0 : Int) + i)).fhi), I (mU w.whi w.fhi (l ((0 : Int) + i)).whi (l ((0 : Int) + i)).flo)])) (4) 25]
 else False
 else False
 else False
 else False
 else False
 else False
 else meanOk w.wlo w.flo (l ((0 : Int) + i)).wlo (l ((0 : Int) + i)).fhi ∧ meanOk w.whi w.flo (l ((0 : Int) + i)).whi (l ((0 : Int) + i)).fhi ∧ bif inK IntKind.i64 (w.flo + (l ((0 : Int) + i)).flo) then
 bif inK IntKind.i64 (w.fhi + (l ((0 : Int) + i)).fhi) then
 bif decide (w.flo + (l ((0 : Int) + i)).flo < (1 : Int)) then
 X VEx.ret [I i, I k, I ((↑n : Int) + (1 : Int)), VV.yld 14, VV.ptr (VA.own 5 0), VV.ptr (VA.own 6 0), VV.ptr (VA.own 7 0)] [ptsA n l, VB.cells [VV.slice (VA.el 0 [] (0 : Int) 0) n cap] (26 : TypeId), VB.cells [I (-1)] (3 : TypeId), VB.cells [VV.nilp] (78 : TypeId), VB.cells [VV.nils] (29 : TypeId), VB.cells [I k] (3 : TypeId), VB.cells [I 10] (30 : TypeId), VB.cells [I (w.flo + (l ((0 : Int) + i)).flo), I (w.fhi + (l ((0 : Int) + i)).fhi), I (mD w.wlo w.flo (l ((0 : Int) + i)).wlo (l ((0 : Int) + i)).fhi), I (mU w.whi w.flo (l ((0 : Int) + i)).whi (l ((0 : Int) + i)).fhi)] (89 : TypeId), VB.cells [VV.ptr (VA.own 12 0)] (87 : TypeId), VB.loop false (some VEx.ret) (sl35 f) 67 [15, 16] as35 bd35, VB.vec xs.length (fun j => wtL (xs.getD j w0)) 4 (25 : TypeId)]
 else bif decide (w.fhi + (l ((0 : Int) + i)).fhi > (1073741824 : Int)) then
 X VEx.ret [I i, I k, I ((↑n : Int) + (1 : Int)), VV.yld 14, VV.ptr (VA.own 5 0), VV.ptr (VA.own 6 0), VV.ptr (VA.own 7 0)] [ptsA n l, VB.cells [VV.slice (VA.el 0 [] (0 : Int) 0) n cap] (26 : TypeId), VB.cells [I (-1)] (3 : TypeId), VB.cells [VV.nilp] (78 : TypeId), VB.cells [VV.nils] (29 : TypeId), VB.cells [I k] (3 : TypeId), VB.cells [I 12] (30 : TypeId), VB.cells [I (w.flo + (l ((0 : Int) + i)).flo), I (w.fhi + (l ((0 : Int) + i)).fhi), I (mD w.wlo w.flo (l ((0 : Int) + i)).wlo (l ((0 : Int) + i)).fhi), I (mU w.whi w.flo (l ((0 : Int) + i)).whi (l ((0 : Int) + i)).fhi)] (89 : TypeId), VB.cells [VV.ptr (VA.own 12 0)] (87 : TypeId), VB.loop false (some VEx.ret) (sl35 f) 67 [15, 16] as35 bd35, VB.vec xs.length (fun j => wtL (xs.getD j w0)) 4 (25 : TypeId)]
 else bif decide (mU w.whi w.flo (l ((0 : Int) + i)).whi (l ((0 : Int) + i)).fhi > (100000 : Int)) then
 X VEx.ret [I i, I k, I ((↑n : Int) + (1 : Int)), VV.yld 14, VV.ptr (VA.own 5 0), VV.ptr (VA.own 6 0), VV.ptr (VA.own 7 0)] [ptsA n l, VB.cells [VV.slice (VA.el 0 [] (0 : Int) 0) n cap] (26 : TypeId), VB.cells [I (-1)] (3 : TypeId), VB.cells [VV.nilp] (78 : TypeId), VB.cells [VV.nils] (29 : TypeId), VB.cells [I k] (3 : TypeId), VB.cells [I 12] (30 : TypeId), VB.cells [I (w.flo + (l ((0 : Int) + i)).flo), I (w.fhi + (l ((0 : Int) + i)).fhi), I (mD w.wlo w.flo (l ((0 : Int) + i)).wlo (l ((0 : Int) + i)).fhi), I (mU w.whi w.flo (l ((0 : Int) + i)).whi (l ((0 : Int) + i)).fhi)] (89 : TypeId), VB.cells [VV.ptr (VA.own 12 0)] (87 : TypeId), VB.loop false (some VEx.ret) (sl35 f) 67 [15, 16] as35 bd35, VB.vec xs.length (fun j => wtL (xs.getD j w0)) 4 (25 : TypeId)]
 else bif xs.length.beq xs.length then
 bif roomB (xs.length + 1) (32) then
 bif inK IntKind.i64 (k + (1 : Int)) then
 bif inK IntKind.i64 (i + (1 : Int)) then
 X VEx.normal [I (i + (1 : Int)), I (k + (1 : Int)), I ((↑n : Int) + (1 : Int)), VV.yld 14, VV.ptr (VA.own 5 0), VV.ptr (VA.own 6 0), VV.ptr (VA.own 7 0)] [ptsA n l, VB.cells [VV.slice (VA.el 0 [] (0 : Int) 0) n cap] (26 : TypeId), VB.cells [I (-1)] (3 : TypeId), VB.cells [VV.nilp] (78 : TypeId), VB.cells [VV.sl 15 (xs.length + 1)] (29 : TypeId), VB.cells [I 0] (3 : TypeId), VB.cells [I 0] (30 : TypeId), VB.cells [I (w.flo + (l ((0 : Int) + i)).flo), I (w.fhi + (l ((0 : Int) + i)).fhi), I (mD w.wlo w.flo (l ((0 : Int) + i)).wlo (l ((0 : Int) + i)).fhi), I (mU w.whi w.flo (l ((0 : Int) + i)).whi (l ((0 : Int) + i)).fhi)] (89 : TypeId), VB.cells [VV.ptr (VA.own 12 0)] (87 : TypeId), VB.loop true none (sl35 f) 67 [15, 16] as35 bd35, VB.vec (xs.length + 1) (catG xs.length (fun j => wtL (xs.getD j w0)) fun j => List.take (4) (List.drop (j * (4)) [I (w.flo + (l ((0 : Int) + i)).flo), I (w.fhi + (l ((0 : Int) + i)).fhi), I (mD w.wlo w.flo (l ((0 : Int) + i)).wlo (l ((0 : Int) + i)).fhi), I (mU w.whi w.flo (l ((0 : Int) + i)).whi (l ((0 : Int) + i)).fhi)])) (4) 25]
 else False
 else False
 else False
 else False
 else False
 else False
 else bif decide ((l ((0 : Int) + i)).whi < w.whi) then
 meanOk w.wlo w.fhi (l ((0 : Int) + i)).wlo (l ((0 : Int) + i)).flo ∧ meanOk w.whi w.fhi (l ((0 : Int) + i)).whi (l ((0 : Int) + i)).flo ∧ bif inK IntKind.i64 (w.flo + (l ((0 : Int) + i)).flo) then
 bif inK IntKind.i64 (w.fhi + (l ((0 : Int) + i)).fhi) then
 bif decide (w.flo + (l ((0 : Int) + i)).flo < (1 : Int)) then
 X VEx.ret [I i, I k, I ((↑n : Int) + (1 : Int)), VV.yld 14, VV.ptr (VA.own 5 0), VV.ptr (VA.own 6 0), VV.ptr (VA.own 7 0)] [ptsA n l, VB.cells [VV.slice (VA.el 0 [] (0 : Int) 0) n cap] (26 : TypeId), VB.cells [I (-1)] (3 : TypeId), VB.cells [VV.nilp] (78 : TypeId), VB.cells [VV.nils] (29 : TypeId), VB.cells [I k] (3 : TypeId), VB.cells [I 10] (30 : TypeId), VB.cells [I (w.flo + (l ((0 : Int) + i)).flo), I (w.fhi + (l ((0 : Int) + i)).fhi), I (mD w.wlo w.fhi (l ((0 : Int) + i)).wlo (l ((0 : Int) + i)).flo), I (mU w.whi w.fhi (l ((0 : Int) + i)).whi (l ((0 : Int) + i)).flo)] (89 : TypeId), VB.cells [VV.ptr (VA.own 12 0)] (87 : TypeId), VB.loop false (some VEx.ret) (sl35 f) 67 [15, 16] as35 bd35, VB.vec xs.length (fun j => wtL (xs.getD j w0)) 4 (25 : TypeId)]
 else bif decide (w.fhi + (l ((0 : Int) + i)).fhi > (1073741824 : Int)) then
 X VEx.ret [I i, I k, I ((↑n : Int) + (1 : Int)), VV.yld 14, VV.ptr (VA.own 5 0), VV.ptr (VA.own 6 0), VV.ptr (VA.own 7 0)] [ptsA n l, VB.cells [VV.slice (VA.el 0 [] (0 : Int) 0) n cap] (26 : TypeId), VB.cells [I (-1)] (3 : TypeId), VB.cells [VV.nilp] (78 : TypeId), VB.cells [VV.nils] (29 : TypeId), VB.cells [I k] (3 : TypeId), VB.cells [I 12] (30 : TypeId), VB.cells [I (w.flo + (l ((0 : Int) + i)).flo), I (w.fhi + (l ((0 : Int) + i)).fhi), I (mD w.wlo w.fhi (l ((0 : Int) + i)).wlo (l ((0 : Int) + i)).flo), I (mU w.whi w.fhi (l ((0 : Int) + i)).whi (l ((0 : Int) + i)).flo)] (89 : TypeId), VB.cells [VV.ptr (VA.own 12 0)] (87 : TypeId), VB.loop false (some VEx.ret) (sl35 f) 67 [15, 16] as35 bd35, VB.vec xs.length (fun j => wtL (xs.getD j w0)) 4 (25 : TypeId)]
 else bif decide (mU w.whi w.fhi (l ((0 : Int) + i)).whi (l ((0 : Int) + i)).flo > (100000 : Int)) then
 X VEx.ret [I i, I k, I ((↑n : Int) + (1 : Int)), VV.yld 14, VV.ptr (VA.own 5 0), VV.ptr (VA.own 6 0), VV.ptr (VA.own 7 0)] [ptsA n l, VB.cells [VV.slice (VA.el 0 [] (0 : Int) 0) n cap] (26 : TypeId), VB.cells [I (-1)] (3 : TypeId), VB.cells [VV.nilp] (78 : TypeId), VB.cells [VV.nils] (29 : TypeId), VB.cells [I k] (3 : TypeId), VB.cells [I 12] (30 : TypeId), VB.cells [I (w.flo + (l ((0 : Int) + i)).flo), I (w.fhi + (l ((0 : Int) + i)).fhi), I (mD w.wlo w.fhi (l ((0 : Int) + i)).wlo (l ((0 : Int) + i)).flo), I (mU w.whi w.fhi (l ((0 : Int) + i)).whi (l ((0 : Int) + i)).flo)] (89 : TypeId), VB.cells [VV.ptr (VA.own 12 0)] (87 : TypeId), VB.loop false (some VEx.ret) (sl35 f) 67 [15, 16] as35 bd35, VB.vec xs.length (fun j => wtL (xs.getD j w0)) 4 (25 : TypeId)]
 else bif xs.length.beq xs.length then
 bif roomB (xs.length + 1) (32) then
 bif inK IntKind.i64 (k + (1 : Int)) then
 bif inK IntKind.i64 (i + (1 : Int)) then
 X VEx.normal [I (i + (1 : Int)), I (k + (1 : Int)), I ((↑n : Int) + (1 : Int)), VV.yld 14, VV.ptr (VA.own 5 0), VV.ptr (VA.own 6 0), VV.ptr (VA.own 7 0)] [ptsA n l, VB.cells [VV.slice (VA.el 0 [] (0 : Int) 0) n cap] (26 : TypeId), VB.cells [I (-1)] (3 : TypeId), VB.cells [VV.nilp] (78 : TypeId), VB.cells [VV.sl 15 (xs.length + 1)] (29 : TypeId), VB.cells [I 0] (3 : TypeId), VB.cells [I 0] (30 : TypeId), VB.cells [I (w.flo + (l ((0 : Int) + i)).flo), I (w.fhi + (l ((0 : Int) + i)).fhi), I (mD w.wlo w.fhi (l ((0 : Int) + i)).wlo (l ((0 : Int) + i)).flo), I (mU w.whi w.fhi (l ((0 : Int) + i)).whi (l ((0 : Int) + i)).flo)] (89 : TypeId), VB.cells [VV.ptr (VA.own 12 0)] (87 : TypeId), VB.loop true none (sl35 f) 67 [15, 16] as35 bd35, VB.vec (xs.length + 1) (catG xs.length (fun j => wtL (xs.getD j w0)) fun j => List.take (4) (List.drop (j * (4)) [I (w.flo + (l ((0 : Int) + i)).flo), I (w.fhi + (l ((0 : Int) + i)).fhi), I (mD w.wlo w.fhi (l ((0 : Int) + i)).wlo (l ((0 : Int) + i)).flo), I (mU w.whi w.fhi (l ((0 : Int) + i)).whi (l ((0 : Int) + i)).flo)])) (4) 25]
 else False
 else False
 else False
 else False
 else False
 else False
 else meanOk w.wlo w.fhi (l ((0 : Int) + i)).wlo (l ((0 : Int) + i)).flo ∧ meanOk w.whi w.flo (l ((0 : Int) + i)).whi (l ((0 : Int) + i)).fhi ∧ bif inK IntKind.i64 (w.flo + (l ((0 : Int) + i)).flo) then
 bif inK IntKind.i64 (w.fhi + (l ((0 : Int) + i)).fhi) then
 bif decide (w.flo + (l ((0 : Int) + i)).flo < (1 : Int)) then
 X VEx.ret [I i, I k, I ((↑n : Int) + (1 : Int)), VV.yld 14, VV.ptr (VA.own 5 0), VV.ptr (VA.own 6 0), VV.ptr (VA.own 7 0)] [ptsA n l, VB.cells [VV.slice (VA.el 0 [] (0 : Int) 0) n cap] (26 : TypeId), VB.cells [I (-1)] (3 : TypeId), VB.cells [VV.nilp] (78 : TypeId), VB.cells [VV.nils] (29 : TypeId), VB.cells [I k] (3 : TypeId), VB.cells [I 10] (30 : TypeId), VB.cells [I (w.flo + (l ((0 : Int) + i)).flo), I (w.fhi + (l ((0 : Int) + i)).fhi), I (mD w.wlo w.fhi (l ((0 : Int) + i)).wlo (l ((0 : Int) + i)).flo), I (mU w.whi w.flo (l ((0 : Int) + i)).whi (l ((0 : Int) + i)).fhi)] (89 : TypeId), VB.cells [VV.ptr (VA.own 12 0)] (87 : TypeId), VB.loop false (some VEx.ret) (sl35 f) 67 [15, 16] as35 bd35, VB.vec xs.length (fun j => wtL (xs.getD j w0)) 4 (25 : TypeId)]
 else bif decide (w.fhi + (l ((0 : Int) + i)).fhi > (1073741824 : Int)) then
 X VEx.ret [I i, I k, I ((↑n : Int) + (1 : Int)), VV.yld 14, VV.ptr (VA.own 5 0), VV.ptr (VA.own 6 0), VV.ptr (VA.own 7 0)] [ptsA n l, VB.cells [VV.slice (VA.el 0 [] (0 : Int) 0) n cap] (26 : TypeId), VB.cells [I (-1)] (3 : TypeId), VB.cells [VV.nilp] (78 : TypeId), VB.cells [VV.nils] (29 : TypeId), VB.cells [I k] (3 : TypeId), VB.cells [I 12] (30 : TypeId), VB.cells [I (w.flo + (l ((0 : Int) + i)).flo), I (w.fhi + (l ((0 : Int) + i)).fhi), I (mD w.wlo w.fhi (l ((0 : Int) + i)).wlo (l ((0 : Int) + i)).flo), I (mU w.whi w.flo (l ((0 : Int) + i)).whi (l ((0 : Int) + i)).fhi)] (89 : TypeId), VB.cells [VV.ptr (VA.own 12 0)] (87 : TypeId), VB.loop false (some VEx.ret) (sl35 f) 67 [15, 16] as35 bd35, VB.vec xs.length (fun j => wtL (xs.getD j w0)) 4 (25 : TypeId)]
 else bif decide (mU w.whi w.flo (l ((0 : Int) + i)).whi (l ((0 : Int) + i)).fhi > (100000 : Int)) then
 X VEx.ret [I i, I k, I ((↑n : Int) + (1 : Int)), VV.yld 14, VV.ptr (VA.own 5 0), VV.ptr (VA.own 6 0), VV.ptr (VA.own 7 0)] [ptsA n l, VB.cells [VV.slice (VA.el 0 [] (0 : Int) 0) n cap] (26 : TypeId), VB.cells [I (-1)] (3 : TypeId), VB.cells [VV.nilp] (78 : TypeId), VB.cells [VV.nils] (29 : TypeId), VB.cells [I k] (3 : TypeId), VB.cells [I 12] (30 : TypeId), VB.cells [I (w.flo + (l ((0 : Int) + i)).flo), I (w.fhi + (l ((0 : Int) + i)).fhi), I (mD w.wlo w.fhi (l ((0 : Int) + i)).wlo (l ((0 : Int) + i)).flo), I (mU w.whi w.flo (l ((0 : Int) + i)).whi (l ((0 : Int) + i)).fhi)] (89 : TypeId), VB.cells [VV.ptr (VA.own 12 0)] (87 : TypeId), VB.loop false (some VEx.ret) (sl35 f) 67 [15, 16] as35 bd35, VB.vec xs.length (fun j => wtL (xs.getD j w0)) 4 (25 : TypeId)]
 else bif xs.length.beq xs.length then
 bif roomB (xs.length + 1) (32) then
 bif inK IntKind.i64 (k + (1 : Int)) then
 bif inK IntKind.i64 (i + (1 : Int)) then
 X VEx.normal [I (i + (1 : Int)), I (k + (1 : Int)), I ((↑n : Int) + (1 : Int)), VV.yld 14, VV.ptr (VA.own 5 0), VV.ptr (VA.own 6 0), VV.ptr (VA.own 7 0)] [ptsA n l, VB.cells [VV.slice (VA.el 0 [] (0 : Int) 0) n cap] (26 : TypeId), VB.cells [I (-1)] (3 : TypeId), VB.cells [VV.nilp] (78 : TypeId), VB.cells [VV.sl 15 (xs.length + 1)] (29 : TypeId), VB.cells [I 0] (3 : TypeId), VB.cells [I 0] (30 : TypeId), VB.cells [I (w.flo + (l ((0 : Int) + i)).flo), I (w.fhi + (l ((0 : Int) + i)).fhi), I (mD w.wlo w.fhi (l ((0 : Int) + i)).wlo (l ((0 : Int) + i)).flo), I (mU w.whi w.flo (l ((0 : Int) + i)).whi (l ((0 : Int) + i)).fhi)] (89 : TypeId), VB.cells [VV.ptr (VA.own 12 0)] (87 : TypeId), VB.loop true none (sl35 f) 67 [15, 16] as35 bd35, VB.vec (xs.length + 1) (catG xs.length (fun j => wtL (xs.getD j w0)) fun j => List.take (4) (List.drop (j * (4)) [I (w.flo + (l ((0 : Int) + i)).flo), I (w.fhi + (l ((0 : Int) + i)).fhi), I (mD w.wlo w.fhi (l ((0 : Int) + i)).wlo (l ((0 : Int) + i)).flo), I (mU w.whi w.flo (l ((0 : Int) + i)).whi (l ((0 : Int) + i)).fhi)])) (4) 25]
 else False
 else False
 else False
 else False
 else False
 else False
 else X VEx.ret [I i, I k, I ((↑n : Int) + (1 : Int)), VV.yld 14, VV.ptr (VA.own 5 0), VV.ptr (VA.own 6 0), VV.ptr (VA.own 7 0)] [ptsA n l, VB.cells [VV.slice (VA.el 0 [] (0 : Int) 0) n cap] (26 : TypeId), VB.cells [I (-1)] (3 : TypeId), VB.cells [VV.nilp] (78 : TypeId), VB.cells [VV.nils] (29 : TypeId), VB.cells [I k] (3 : TypeId), VB.cells [I 1] (30 : TypeId), VB.cells [I w.flo, I w.fhi, I w.wlo, I w.whi] (89 : TypeId), VB.cells [VV.ptr (VA.own 12 0)] (87 : TypeId), VB.loop false (some VEx.ret) (sl35 f) 67 [15, 16] as35 bd35, VB.vec xs.length (fun j => wtL (xs.getD j w0)) 4 (25 : TypeId)]
 else bif decide ((l ((0 : Int) + i)).k = (1 : Int)) then
 bif !spanB (l ((0 : Int) + i)).flo (l ((0 : Int) + i)).fhi (0 : Int) (1073741824 : Int) then
 X VEx.ret [I i, I k, I ((↑n : Int) + (1 : Int)), VV.yld 14, VV.ptr (VA.own 5 0), VV.ptr (VA.own 6 0), VV.ptr (VA.own 7 0)] [ptsA n l, VB.cells [VV.slice (VA.el 0 [] (0 : Int) 0) n cap] (26 : TypeId), VB.cells [I (-1)] (3 : TypeId), VB.cells [VV.nilp] (78 : TypeId), VB.cells [VV.nils] (29 : TypeId), VB.cells [I k] (3 : TypeId), VB.cells [I 1] (30 : TypeId), VB.cells [I w.flo, I w.fhi, I w.wlo, I w.whi] (89 : TypeId), VB.cells [VV.ptr (VA.own 12 0)] (87 : TypeId), VB.loop false (some VEx.ret) (sl35 f) 67 [15, 16] as35 bd35, VB.vec xs.length (fun j => wtL (xs.getD j w0)) 4 (25 : TypeId)]
 else bif inK IntKind.i64 (w.flo - (l ((0 : Int) + i)).fhi) then
 bif inK IntKind.i64 (w.fhi - (l ((0 : Int) + i)).flo) then
 bif decide (w.flo - (l ((0 : Int) + i)).fhi < (1 : Int)) then
 X VEx.ret [I i, I k, I ((↑n : Int) + (1 : Int)), VV.yld 14, VV.ptr (VA.own 5 0), VV.ptr (VA.own 6 0), VV.ptr (VA.own 7 0)] [ptsA n l, VB.cells [VV.slice (VA.el 0 [] (0 : Int) 0) n cap] (26 : TypeId), VB.cells [I (-1)] (3 : TypeId), VB.cells [VV.nilp] (78 : TypeId), VB.cells [VV.nils] (29 : TypeId), VB.cells [I k] (3 : TypeId), VB.cells [I 10] (30 : TypeId), VB.cells [I (w.flo - (l ((0 : Int) + i)).fhi), I (w.fhi - (l ((0 : Int) + i)).flo), I w.wlo, I w.whi] (89 : TypeId), VB.cells [VV.ptr (VA.own 12 0)] (87 : TypeId), VB.loop false (some VEx.ret) (sl35 f) 67 [15, 16] as35 bd35, VB.vec xs.length (fun j => wtL (xs.getD j w0)) 4 (25 : TypeId)]
 else bif decide (w.fhi - (l ((0 : Int) + i)).flo > (1073741824 : Int)) then
 X VEx.ret [I i, I k, I ((↑n : Int) + (1 : Int)), VV.yld 14, VV.ptr (VA.own 5 0), VV.ptr (VA.own 6 0), VV.ptr (VA.own 7 0)] [ptsA n l, VB.cells [VV.slice (VA.el 0 [] (0 : Int) 0) n cap] (26 : TypeId), VB.cells [I (-1)] (3 : TypeId), VB.cells [VV.nilp] (78 : TypeId), VB.cells [VV.nils] (29 : TypeId), VB.cells [I k] (3 : TypeId), VB.cells [I 12] (30 : TypeId), VB.cells [I (w.flo - (l ((0 : Int) + i)).fhi), I (w.fhi - (l ((0 : Int) + i)).flo), I w.wlo, I w.whi] (89 : TypeId), VB.cells [VV.ptr (VA.own 12 0)] (87 : TypeId), VB.loop false (some VEx.ret) (sl35 f) 67 [15, 16] as35 bd35, VB.vec xs.length (fun j => wtL (xs.getD j w0)) 4 (25 : TypeId)]
 else bif decide (w.whi > (100000 : Int)) then
 X VEx.ret [I i, I k, I ((↑n : Int) + (1 : Int)), VV.yld 14, VV.ptr (VA.own 5 0), VV.ptr (VA.own 6 0), VV.ptr (VA.own 7 0)] [ptsA n l, VB.cells [VV.slice (VA.el 0 [] (0 : Int) 0) n cap] (26 : TypeId), VB.cells [I (-1)] (3 : TypeId), VB.cells [VV.nilp] (78 : TypeId), VB.cells [VV.nils] (29 : TypeId), VB.cells [I k] (3 : TypeId), VB.cells [I 12] (30 : TypeId), VB.cells [I (w.flo - (l ((0 : Int) + i)).fhi), I (w.fhi - (l ((0 : Int) + i)).flo), I w.wlo, I w.whi] (89 : TypeId), VB.cells [VV.ptr (VA.own 12 0)] (87 : TypeId), VB.loop false (some VEx.ret) (sl35 f) 67 [15, 16] as35 bd35, VB.vec xs.length (fun j => wtL (xs.getD j w0)) 4 (25 : TypeId)]
 else bif xs.length.beq xs.length then
 bif roomB (xs.length + 1) (32) then
 bif inK IntKind.i64 (k + (1 : Int)) then
 bif inK IntKind.i64 (i + (1 : Int)) then
 X VEx.normal [I (i + (1 : Int)), I (k + (1 : Int)), I ((↑n : Int) + (1 : Int)), VV.yld 14, VV.ptr (VA.own 5 0), VV.ptr (VA.own 6 0), VV.ptr (VA.own 7 0)] [ptsA n l, VB.cells [VV.slice (VA.el 0 [] (0 : Int) 0) n cap] (26 : TypeId), VB.cells [I (-1)] (3 : TypeId), VB.cells [VV.nilp] (78 : TypeId), VB.cells [VV.sl 15 (xs.length + 1)] (29 : TypeId), VB.cells [I 0] (3 : TypeId), VB.cells [I 0] (30 : TypeId), VB.cells [I (w.flo - (l ((0 : Int) + i)).fhi), I (w.fhi - (l ((0 : Int) + i)).flo), I w.wlo, I w.whi] (89 : TypeId), VB.cells [VV.ptr (VA.own 12 0)] (87 : TypeId), VB.loop true none (sl35 f) 67 [15, 16] as35 bd35, VB.vec (xs.length + 1) (catG xs.length (fun j => wtL (xs.getD j w0)) fun j => List.take (4) (List.drop (j * (4)) [I (w.flo - (l ((0 : Int) + i)).fhi), I (w.fhi - (l ((0 : Int) + i)).flo), I w.wlo, I w.whi])) (4) 25]
 else False
 else False
 else False
 else False
 else False
 else False
 else bif decide ((l ((0 : Int) + i)).k = (2 : Int)) then
 bif !spanB (l ((0 : Int) + i)).hlo (l ((0 : Int) + i)).hhi (0 : Int) (1099511627776 : Int) then
 X VEx.ret [I i, I k, I ((↑n : Int) + (1 : Int)), VV.yld 14, VV.ptr (VA.own 5 0), VV.ptr (VA.own 6 0), VV.ptr (VA.own 7 0)] [ptsA n l, VB.cells [VV.slice (VA.el 0 [] (0 : Int) 0) n cap] (26 : TypeId), VB.cells [I (-1)] (3 : TypeId), VB.cells [VV.nilp] (78 : TypeId), VB.cells [VV.nils] (29 : TypeId), VB.cells [I k] (3 : TypeId), VB.cells [I 1] (30 : TypeId), VB.cells [I w.flo, I w.fhi, I w.wlo, I w.whi] (89 : TypeId), VB.cells [VV.ptr (VA.own 12 0)] (87 : TypeId), VB.loop false (some VEx.ret) (sl35 f) 67 [15, 16] as35 bd35, VB.vec xs.length (fun j => wtL (xs.getD j w0)) 4 (25 : TypeId)]
 else bif decide (w.fhi = (0 : Int)) then
 False
 else bif inK IntKind.i64 (quoZ (l ((0 : Int) + i)).hlo w.fhi) then
 bif inK IntKind.i64 (w.wlo + quoZ (l ((0 : Int) + i)).hlo w.fhi) then
 upOk (l ((0 : Int) + i)).hhi w.flo ∧ bif inK IntKind.i64 (w.whi + quoZ ((l ((0 : Int) + i)).hhi + w.flo - (1 : Int)) w.flo) then
 bif decide (w.flo < (1 : Int)) then
 X VEx.ret [I i, I k, I ((↑n : Int) + (1 : Int)), VV.yld 14, VV.ptr (VA.own 5 0), VV.ptr (VA.own 6 0), VV.ptr (VA.own 7 0)] [ptsA n l, VB.cells [VV.slice (VA.el 0 [] (0 : Int) 0) n cap] (26 : TypeId), VB.cells [I (-1)] (3 : TypeId), VB.cells [VV.nilp] (78 : TypeId), VB.cells [VV.nils] (29 : TypeId), VB.cells [I k] (3 : TypeId), VB.cells [I 10] (30 : TypeId), VB.cells [I w.flo, I w.fhi, I (w.wlo + quoZ (l ((0 : Int) + i)).hlo w.fhi), I (w.whi + quoZ ((l ((0 : Int) + i)).hhi + w.flo - (1 : Int)) w.flo)] (89 : TypeId), VB.cells [VV.ptr (VA.own 12 0)] (87 : TypeId), VB.loop false (some VEx.ret) (sl35 f) 67 [15, 16] as35 bd35, VB.vec xs.length (fun j => wtL (xs.getD j w0)) 4 (25 : TypeId)]
 else bif decide (w.fhi > (1073741824 : Int)) then
 X VEx.ret [I i, I k, I ((↑n : Int) + (1 : Int)), VV.yld 14, VV.ptr (VA.own 5 0), VV.ptr (VA.own 6 0), VV.ptr (VA.own 7 0)] [ptsA n l, VB.cells [VV.slice (VA.el 0 [] (0 : Int) 0) n cap] (26 : TypeId), VB.cells [I (-1)] (3 : TypeId), VB.cells [VV.nilp] (78 : TypeId), VB.cells [VV.nils] (29 : TypeId), VB.cells [I k] (3 : TypeId), VB.cells [I 12] (30 : TypeId), VB.cells [I w.flo, I w.fhi, I (w.wlo + quoZ (l ((0 : Int) + i)).hlo w.fhi), I (w.whi + quoZ ((l ((0 : Int) + i)).hhi + w.flo - (1 : Int)) w.flo)] (89 : TypeId), VB.cells [VV.ptr (VA.own 12 0)] (87 : TypeId), VB.loop false (some VEx.ret) (sl35 f) 67 [15, 16] as35 bd35, VB.vec xs.length (fun j => wtL (xs.getD j w0)) 4 (25 : TypeId)]
 else bif decide (w.whi + quoZ ((l ((0 : Int) + i)).hhi + w.flo - (1 : Int)) w.flo > (100000 : Int)) then
 X VEx.ret [I i, I k, I ((↑n : Int) + (1 : Int)), VV.yld 14, VV.ptr (VA.own 5 0), VV.ptr (VA.own 6 0), VV.ptr (VA.own 7 0)] [ptsA n l, VB.cells [VV.slice (VA.el 0 [] (0 : Int) 0) n cap] (26 : TypeId), VB.cells [I (-1)] (3 : TypeId), VB.cells [VV.nilp] (78 : TypeId), VB.cells [VV.nils] (29 : TypeId), VB.cells [I k] (3 : TypeId), VB.cells [I 12] (30 : TypeId), VB.cells [I w.flo, I w.fhi, I (w.wlo + quoZ (l ((0 : Int) + i)).hlo w.fhi), I (w.whi + quoZ ((l ((0 : Int) + i)).hhi + w.flo - (1 : Int)) w.flo)] (89 : TypeId), VB.cells [VV.ptr (VA.own 12 0)] (87 : TypeId), VB.loop false (some VEx.ret) (sl35 f) 67 [15, 16] as35 bd35, VB.vec xs.length (fun j => wtL (xs.getD j w0)) 4 (25 : TypeId)]
 else bif xs.length.beq xs.length then
 bif roomB (xs.length + 1) (32) then
 bif inK IntKind.i64 (k + (1 : Int)) then
 bif inK IntKind.i64 (i + (1 : Int)) then
 X VEx.normal [I (i + (1 : Int)), I (k + (1 : Int)), I ((↑n : Int) + (1 : Int)), VV.yld 14, VV.ptr (VA.own 5 0), VV.ptr (VA.own 6 0), VV.ptr (VA.own 7 0)] [ptsA n l, VB.cells [VV.slice (VA.el 0 [] (0 : Int) 0) n cap] (26 : TypeId), VB.cells [I (-1)] (3 : TypeId), VB.cells [VV.nilp] (78 : TypeId), VB.cells [VV.sl 15 (xs.length + 1)] (29 : TypeId), VB.cells [I 0] (3 : TypeId), VB.cells [I 0] (30 : TypeId), VB.cells [I w.flo, I w.fhi, I (w.wlo + quoZ (l ((0 : Int) + i)).hlo w.fhi), I (w.whi + quoZ ((l ((0 : Int) + i)).hhi + w.flo - (1 : Int)) w.flo)] (89 : TypeId), VB.cells [VV.ptr (VA.own 12 0)] (87 : TypeId), VB.loop true none (sl35 f) 67 [15, 16] as35 bd35, VB.vec (xs.length + 1) (catG xs.length (fun j => wtL (xs.getD j w0)) fun j => List.take (4) (List.drop (j * (4)) [I w.flo, I w.fhi, I (w.wlo + quoZ (l ((0 : Int) + i)).hlo w.fhi), I (w.whi + quoZ ((l ((0 : Int) + i)).hhi + w.flo - (1 : Int)) w.flo)])) (4) 25]
 else False
 else False
 else False
 else False
 else False
 else False
 else False
 else bif decide ((l ((0 : Int) + i)).k = (3 : Int)) then
 bif spanB (l ((0 : Int) + i)).wlo (l ((0 : Int) + i)).whi (0 : Int) (100000 : Int) then
 bif !spanB (l ((0 : Int) + i)).slo (l ((0 : Int) + i)).shi (0 : Int) (10000 : Int) then
 X VEx.ret [I i, I k, I ((↑n : Int) + (1 : Int)), VV.yld 14, VV.ptr (VA.own 5 0), VV.ptr (VA.own 6 0), VV.ptr (VA.own 7 0)] [ptsA n l, VB.cells [VV.slice (VA.el 0 [] (0 : Int) 0) n cap] (26 : TypeId), VB.cells [I (-1)] (3 : TypeId), VB.cells [VV.nilp] (78 : TypeId), VB.cells [VV.nils] (29 : TypeId), VB.cells [I k] (3 : TypeId), VB.cells [I 1] (30 : TypeId), VB.cells [I w.flo, I w.fhi, I w.wlo, I w.whi] (89 : TypeId), VB.cells [VV.ptr (VA.own 12 0)] (87 : TypeId), VB.loop false (some VEx.ret) (sl35 f) 67 [15, 16] as35 bd35, VB.vec xs.length (fun j => wtL (xs.getD j w0)) 4 (25 : TypeId)]
 else bif decide (w.wlo > (l ((0 : Int) + i)).wlo) then
 bif decide (w.whi > (l ((0 : Int) + i)).whi) then
 bif inK IntKind.i64 ((10000 : Int) - (l ((0 : Int) + i)).shi) then
 meanOk w.wlo ((10000 : Int) - (l ((0 : Int) + i)).shi) (l ((0 : Int) + i)).wlo (l ((0 : Int) + i)).shi ∧ bif inK IntKind.i64 ((10000 : Int) - (l ((0 : Int) + i)).slo) then
 meanOk w.whi ((10000 : Int) - (l ((0 : Int) + i)).slo) (l ((0 : Int) + i)).whi (l ((0 : Int) + i)).slo ∧ bif decide (w.flo < (1 : Int)) then
 X VEx.ret [I i, I k, I ((↑n : Int) + (1 : Int)), VV.yld 14, VV.ptr (VA.own 5 0), VV.ptr (VA.own 6 0), VV.ptr (VA.own 7 0)] [ptsA n l, VB.cells [VV.slice (VA.el 0 [] (0 : Int) 0) n cap] (26 : TypeId), VB.cells [I (-1)] (3 : TypeId), VB.cells [VV.nilp] (78 : TypeId), VB.cells [VV.nils] (29 : TypeId), VB.cells [I k] (3 : TypeId), VB.cells [I 10] (30 : TypeId), VB.cells [I w.flo, I w.fhi, I (mD w.wlo ((10000 : Int) - (l ((0 : Int) + i)).shi) (l ((0 : Int) + i)).wlo (l ((0 : Int) + i)).shi), I (mU w.whi ((10000 : Int) - (l ((0 : Int) + i)).slo) (l ((0 : Int) + i)).whi (l ((0 : Int) + i)).slo)] (89 : TypeId), VB.cells [VV.ptr (VA.own 12 0)] (87 : TypeId), VB.loop false (some VEx.ret) (sl35 f) 67 [15, 16] as35 bd35, VB.vec xs.length (fun j => wtL (xs.getD j w0)) 4 (25 : TypeId)]
 else bif decide (w.fhi > (1073741824 : Int)) then
 X VEx.ret [I i, I k, I ((↑n : Int) + (1 : Int)), VV.yld 14, VV.ptr (VA.own 5 0), VV.ptr (VA.own 6 0), VV.ptr (VA.own 7 0)] [ptsA n l, VB.cells [VV.slice (VA.el 0 [] (0 : Int) 0) n cap] (26 : TypeId), VB.cells [I (-1)] (3 : TypeId), VB.cells [VV.nilp] (78 : TypeId), VB.cells [VV.nils] (29 : TypeId), VB.cells [I k] (3 : TypeId), VB.cells [I 12] (30 : TypeId), VB.cells [I w.flo, I w.fhi, I (mD w.wlo ((10000 : Int) - (l ((0 : Int) + i)).shi) (l ((0 : Int) + i)).wlo (l ((0 : Int) + i)).shi), I (mU w.whi ((10000 : Int) - (l ((0 : Int) + i)).slo) (l ((0 : Int) + i)).whi (l ((0 : Int) + i)).slo)] (89 : TypeId), VB.cells [VV.ptr (VA.own 12 0)] (87 : TypeId), VB.loop false (some VEx.ret) (sl35 f) 67 [15, 16] as35 bd35, VB.vec xs.length (fun j => wtL (xs.getD j w0)) 4 (25 : TypeId)]
 else bif decide (mU w.whi ((10000 : Int) - (l ((0 : Int) + i)).slo) (l ((0 : Int) + i)).whi (l ((0 : Int) + i)).slo > (100000 : Int)) then
 X VEx.ret [I i, I k, I ((↑n : Int) + (1 : Int)), VV.yld 14, VV.ptr (VA.own 5 0), VV.ptr (VA.own 6 0), VV.ptr (VA.own 7 0)] [ptsA n l, VB.cells [VV.slice (VA.el 0 [] (0 : Int) 0) n cap] (26 : TypeId), VB.cells [I (-1)] (3 : TypeId), VB.cells [VV.nilp] (78 : TypeId), VB.cells [VV.nils] (29 : TypeId), VB.cells [I k] (3 : TypeId), VB.cells [I 12] (30 : TypeId), VB.cells [I w.flo, I w.fhi, I (mD w.wlo ((10000 : Int) - (l ((0 : Int) + i)).shi) (l ((0 : Int) + i)).wlo (l ((0 : Int) + i)).shi), I (mU w.whi ((10000 : Int) - (l ((0 : Int) + i)).slo) (l ((0 : Int) + i)).whi (l ((0 : Int) + i)).slo)] (89 : TypeId), VB.cells [VV.ptr (VA.own 12 0)] (87 : TypeId), VB.loop false (some VEx.ret) (sl35 f) 67 [15, 16] as35 bd35, VB.vec xs.length (fun j => wtL (xs.getD j w0)) 4 (25 : TypeId)]
 else bif xs.length.beq xs.length then
 bif roomB (xs.length + 1) (32) then
 bif inK IntKind.i64 (k + (1 : Int)) then
 bif inK IntKind.i64 (i + (1 : Int)) then
 X VEx.normal [I (i + (1 : Int)), I (k + (1 : Int)), I ((↑n : Int) + (1 : Int)), VV.yld 14, VV.ptr (VA.own 5 0), VV.ptr (VA.own 6 0), VV.ptr (VA.own 7 0)] [ptsA n l, VB.cells [VV.slice (VA.el 0 [] (0 : Int) 0) n cap] (26 : TypeId), VB.cells [I (-1)] (3 : TypeId), VB.cells [VV.nilp] (78 : TypeId), VB.cells [VV.sl 15 (xs.length + 1)] (29 : TypeId), VB.cells [I 0] (3 : TypeId), VB.cells [I 0] (30 : TypeId), VB.cells [I w.flo, I w.fhi, I (mD w.wlo ((10000 : Int) - (l ((0 : Int) + i)).shi) (l ((0 : Int) + i)).wlo (l ((0 : Int) + i)).shi), I (mU w.whi ((10000 : Int) - (l ((0 : Int) + i)).slo) (l ((0 : Int) + i)).whi (l ((0 : Int) + i)).slo)] (89 : TypeId), VB.cells [VV.ptr (VA.own 12 0)] (87 : TypeId), VB.loop true none (sl35 f) 67 [15, 16] as35 bd35, VB.vec (xs.length + 1) (catG xs.length (fun j => wtL (xs.getD j w0)) fun j => List.take (4) (List.drop (j * (4)) [I w.flo, I w.fhi, I (mD w.wlo ((10000 : Int) - (l ((0 : Int) + i)).shi) (l ((0 : Int) + i)).wlo (l ((0 : Int) + i)).shi), I (mU w.whi ((10000 : Int) - (l ((0 : Int) + i)).slo) (l ((0 : Int) + i)).whi (l ((0 : Int) + i)).slo)])) (4) 25]
 else False
 else False
 else False
 else False
 else False
 else False
 else bif inK IntKind.i64 ((10000 : Int) - (l ((0 : Int) + i)).shi) then
 meanOk w.wlo ((10000 : Int) - (l ((0 : Int) + i)).shi) (l ((0 : Int) + i)).wlo (l ((0 : Int) + i)).shi ∧ bif inK IntKind.i64 ((10000 : Int) - (l ((0 : Int) + i)).shi) then
 meanOk w.whi ((10000 : Int) - (l ((0 : Int) + i)).shi) (l ((0 : Int) + i)).whi (l ((0 : Int) + i)).shi ∧ bif decide (w.flo < (1 : Int)) then
 X VEx.ret [I i, I k, I ((↑n : Int) + (1 : Int)), VV.yld 14, VV.ptr (VA.own 5 0), VV.ptr (VA.own 6 0), VV.ptr (VA.own 7 0)] [ptsA n l, VB.cells [VV.slice (VA.el 0 [] (0 : Int) 0) n cap] (26 : TypeId), VB.cells [I (-1)] (3 : TypeId), VB.cells [VV.nilp] (78 : TypeId), VB.cells [VV.nils] (29 : TypeId), VB.cells [I k] (3 : TypeId), VB.cells [I 10] (30 : TypeId), VB.cells [I w.flo, I w.fhi, I (mD w.wlo ((10000 : Int) - (l ((0 : Int) + i)).shi) (l ((0 : Int) + i)).wlo (l ((0 : Int) + i)).shi), I (mU w.whi ((10000 : Int) - (l ((0 : Int) + i)).shi) (l ((0 : Int) + i)).whi (l ((0 : Int) + i)).shi)] (89 : TypeId), VB.cells [VV.ptr (VA.own 12 0)] (87 : TypeId), VB.loop false (some VEx.ret) (sl35 f) 67 [15, 16] as35 bd35, VB.vec xs.length (fun j => wtL (xs.getD j w0)) 4 (25 : TypeId)]
 else bif decide (w.fhi > (1073741824 : Int)) then
 X VEx.ret [I i, I k, I ((↑n : Int) + (1 : Int)), VV.yld 14, VV.ptr (VA.own 5 0), VV.ptr (VA.own 6 0), VV.ptr (VA.own 7 0)] [ptsA n l, VB.cells [VV.slice (VA.el 0 [] (0 : Int) 0) n cap] (26 : TypeId), VB.cells [I (-1)] (3 : TypeId), VB.cells [VV.nilp] (78 : TypeId), VB.cells [VV.nils] (29 : TypeId), VB.cells [I k] (3 : TypeId), VB.cells [I 12] (30 : TypeId), VB.cells [I w.flo, I w.fhi, I (mD w.wlo ((10000 : Int) - (l ((0 : Int) + i)).shi) (l ((0 : Int) + i)).wlo (l ((0 : Int) + i)).shi), I (mU w.whi ((10000 : Int) - (l ((0 : Int) + i)).shi) (l ((0 : Int) + i)).whi (l ((0 : Int) + i)).shi)] (89 : TypeId), VB.cells [VV.ptr (VA.own 12 0)] (87 : TypeId), VB.loop false (some VEx.ret) (sl35 f) 67 [15, 16] as35 bd35, VB.vec xs.length (fun j => wtL (xs.getD j w0)) 4 (25 : TypeId)]
 else bif decide (mU w.whi ((10000 : Int) - (l ((0 : Int) + i)).shi) (l ((0 : Int) + i)).whi (l ((0 : Int) + i)).shi > (100000 : Int)) then
 X VEx.ret [I i, I k, I ((↑n : Int) + (1 : Int)), VV.yld 14, VV.ptr (VA.own 5 0), VV.ptr (VA.own 6 0), VV.ptr (VA.own 7 0)] [ptsA n l, VB.cells [VV.slice (VA.el 0 [] (0 : Int) 0) n cap] (26 : TypeId), VB.cells [I (-1)] (3 : TypeId), VB.cells [VV.nilp] (78 : TypeId), VB.cells [VV.nils] (29 : TypeId), VB.cells [I k] (3 : TypeId), VB.cells [I 12] (30 : TypeId), VB.cells [I w.flo, I w.fhi, I (mD w.wlo ((10000 : Int) - (l ((0 : Int) + i)).shi) (l ((0 : Int) + i)).wlo (l ((0 : Int) + i)).shi), I (mU w.whi ((10000 : Int) - (l ((0 : Int) + i)).shi) (l ((0 : Int) + i)).whi (l ((0 : Int) + i)).shi)] (89 : TypeId), VB.cells [VV.ptr (VA.own 12 0)] (87 : TypeId), VB.loop false (some VEx.ret) (sl35 f) 67 [15, 16] as35 bd35, VB.vec xs.length (fun j => wtL (xs.getD j w0)) 4 (25 : TypeId)]
 else bif xs.length.beq xs.length then
 bif roomB (xs.length + 1) (32) then
 bif inK IntKind.i64 (k + (1 : Int)) then
 bif inK IntKind.i64 (i + (1 : Int)) then
 X VEx.normal [I (i + (1 : Int)), I (k + (1 : Int)), I ((↑n : Int) + (1 : Int)), VV.yld 14, VV.ptr (VA.own 5 0), VV.ptr (VA.own 6 0), VV.ptr (VA.own 7 0)] [ptsA n l, VB.cells [VV.slice (VA.el 0 [] (0 : Int) 0) n cap] (26 : TypeId), VB.cells [I (-1)] (3 : TypeId), VB.cells [VV.nilp] (78 : TypeId), VB.cells [VV.sl 15 (xs.length + 1)] (29 : TypeId), VB.cells [I 0] (3 : TypeId), VB.cells [I 0] (30 : TypeId), VB.cells [I w.flo, I w.fhi, I (mD w.wlo ((10000 : Int) - (l ((0 : Int) + i)).shi) (l ((0 : Int) + i)).wlo (l ((0 : Int) + i)).shi), I (mU w.whi ((10000 : Int) - (l ((0 : Int) + i)).shi) (l ((0 : Int) + i)).whi (l ((0 : Int) + i)).shi)] (89 : TypeId), VB.cells [VV.ptr (VA.own 12 0)] (87 : TypeId), VB.loop true none (sl35 f) 67 [15, 16] as35 bd35, VB.vec (xs.length + 1) (catG xs.length (fun j => wtL (xs.getD j w0)) fun j => List.take (4) (List.drop (j * (4)) [I w.flo, I w.fhi, I (mD w.wlo ((10000 : Int) - (l ((0 : Int) + i)).shi) (l ((0 : Int) + i)).wlo (l ((0 : Int) + i)).shi), I (mU w.whi ((10000 : Int) - (l ((0 : Int) + i)).shi) (l ((0 : Int) + i)).whi (l ((0 : Int) + i)).shi)])) (4) 25]
 else False
 else False
 else False
 else False
 else False
 else False
 else bif decide (w.whi > (l ((0 : Int) + i)).whi) then
 bif inK IntKind.i64 ((10000 : Int) - (l ((0 : Int) + i)).slo) then
 meanOk w.wlo ((10000 : Int) - (l ((0 : Int) + i)).slo) (l ((0 : Int) + i)).wlo (l ((0 : Int) + i)).slo ∧ bif inK IntKind.i64 ((10000 : Int) - (l ((0 : Int) + i)).slo) then
 meanOk w.whi ((10000 : Int) - (l ((0 : Int) + i)).slo) (l ((0 : Int) + i)).whi (l ((0 : Int) + i)).slo ∧ bif decide (w.flo < (1 : Int)) then
 X VEx.ret [I i, I k, I ((↑n : Int) + (1 : Int)), VV.yld 14, VV.ptr (VA.own 5 0), VV.ptr (VA.own 6 0), VV.ptr (VA.own 7 0)] [ptsA n l, VB.cells [VV.slice (VA.el 0 [] (0 : Int) 0) n cap] (26 : TypeId), VB.cells [I (-1)] (3 : TypeId), VB.cells [VV.nilp] (78 : TypeId), VB.cells [VV.nils] (29 : TypeId), VB.cells [I k] (3 : TypeId), VB.cells [I 10] (30 : TypeId), VB.cells [I w.flo, I w.fhi, I (mD w.wlo ((10000 : Int) - (l ((0 : Int) + i)).slo) (l ((0 : Int) + i)).wlo (l ((0 : Int) + i)).slo), I (mU w.whi ((10000 : Int) - (l ((0 : Int) + i)).slo) (l ((0 : Int) + i)).whi (l ((0 : Int) + i)).slo)] (89 : TypeId), VB.cells [VV.ptr (VA.own 12 0)] (87 : TypeId), VB.loop false (some VEx.ret) (sl35 f) 67 [15, 16] as35 bd35, VB.vec xs.length (fun j => wtL (xs.getD j w0)) 4 (25 : TypeId)]
 else bif decide (w.fhi > (1073741824 : Int)) then
 X VEx.ret [I i, I k, I ((↑n : Int) + (1 : Int)), VV.yld 14, VV.ptr (VA.own 5 0), VV.ptr (VA.own 6 0), VV.ptr (VA.own 7 0)] [ptsA n l, VB.cells [VV.slice (VA.el 0 [] (0 : Int) 0) n cap] (26 : TypeId), VB.cells [I (-1)] (3 : TypeId), VB.cells [VV.nilp] (78 : TypeId), VB.cells [VV.nils] (29 : TypeId), VB.cells [I k] (3 : TypeId), VB.cells [I 12] (30 : TypeId), VB.cells [I w.flo, I w.fhi, I (mD w.wlo ((10000 : Int) - (l ((0 : Int) + i)).slo) (l ((0 : Int) + i)).wlo (l ((0 : Int) + i)).slo), I (mU w.whi ((10000 : Int) - (l ((0 : Int) + i)).slo) (l ((0 : Int) + i)).whi (l ((0 : Int) + i)).slo)] (89 : TypeId), VB.cells [VV.ptr (VA.own 12 0)] (87 : TypeId), VB.loop false (some VEx.ret) (sl35 f) 67 [15, 16] as35 bd35, VB.vec xs.length (fun j => wtL (xs.getD j w0)) 4 (25 : TypeId)]
 else bif decide (mU w.whi ((10000 : Int) - (l ((0 : Int) + i)).slo) (l ((0 : Int) + i)).whi (l ((0 : Int) + i)).slo > (100000 : Int)) then
 X VEx.ret [I i, I k, I ((↑n : Int) + (1 : Int)), VV.yld 14, VV.ptr (VA.own 5 0), VV.ptr (VA.own 6 0), VV.ptr (VA.own 7 0)] [ptsA n l, VB.cells [VV.slice (VA.el 0 [] (0 : Int) 0) n cap] (26 : TypeId), VB.cells [I (-1)] (3 : TypeId), VB.cells [VV.nilp] (78 : TypeId), VB.cells [VV.nils] (29 : TypeId), VB.cells [I k] (3 : TypeId), VB.cells [I 12] (30 : TypeId), VB.cells [I w.flo, I w.fhi, I (mD w.wlo ((10000 : Int) - (l ((0 : Int) + i)).slo) (l ((0 : Int) + i)).wlo (l ((0 : Int) + i)).slo), I (mU w.whi ((10000 : Int) - (l ((0 : Int) + i)).slo) (l ((0 : Int) + i)).whi (l ((0 : Int) + i)).slo)] (89 : TypeId), VB.cells [VV.ptr (VA.own 12 0)] (87 : TypeId), VB.loop false (some VEx.ret) (sl35 f) 67 [15, 16] as35 bd35, VB.vec xs.length (fun j => wtL (xs.getD j w0)) 4 (25 : TypeId)]
 else bif xs.length.beq xs.length then
 bif roomB (xs.length + 1) (32) then
 bif inK IntKind.i64 (k + (1 : Int)) then
 bif inK IntKind.i64 (i + (1 : Int)) then
 X VEx.normal [I (i + (1 : Int)), I (k + (1 : Int)), I ((↑n : Int) + (1 : Int)), VV.yld 14, VV.ptr (VA.own 5 0), VV.ptr (VA.own 6 0), VV.ptr (VA.own 7 0)] [ptsA n l, VB.cells [VV.slice (VA.el 0 [] (0 : Int) 0) n cap] (26 : TypeId), VB.cells [I (-1)] (3 : TypeId), VB.cells [VV.nilp] (78 : TypeId), VB.cells [VV.sl 15 (xs.length + 1)] (29 : TypeId), VB.cells [I 0] (3 : TypeId), VB.cells [I 0] (30 : TypeId), VB.cells [I w.flo, I w.fhi, I (mD w.wlo ((10000 : Int) - (l ((0 : Int) + i)).slo) (l ((0 : Int) + i)).wlo (l ((0 : Int) + i)).slo), I (mU w.whi ((10000 : Int) - (l ((0 : Int) + i)).slo) (l ((0 : Int) + i)).whi (l ((0 : Int) + i)).slo)] (89 : TypeId), VB.cells [VV.ptr (VA.own 12 0)] (87 : TypeId), VB.loop true none (sl35 f) 67 [15, 16] as35 bd35, VB.vec (xs.length + 1) (catG xs.length (fun j => wtL (xs.getD j w0)) fun j => List.take (4) (List.drop (j * (4)) [I w.flo, I w.fhi, I (mD w.wlo ((10000 : Int) - (l ((0 : Int) + i)).slo) (l ((0 : Int) + i)).wlo (l ((0 : Int) + i)).slo), I (mU w.whi ((10000 : Int) - (l ((0 : Int) + i)).slo) (l ((0 : Int) + i)).whi (l ((0 : Int) + i)).slo)])) (4) 25]
 else False
 else False
 else False
 else False
 else False
 else False
 else bif inK IntKind.i64 ((10000 : Int) - (l ((0 : Int) + i)).slo) then
 meanOk w.wlo ((10000 : Int) - (l ((0 : Int) + i)).slo) (l ((0 : Int) + i)).wlo (l ((0 : Int) + i)).slo ∧ bif inK IntKind.i64 ((10000 : Int) - (l ((0 : Int) + i)).shi) then
 meanOk w.whi ((10000 : Int) - (l ((0 : Int) + i)).shi) (l ((0 : Int) + i)).whi (l ((0 : Int) + i)).shi ∧ bif decide (w.flo < (1 : Int)) then
 X VEx.ret [I i, I k, I ((↑n : Int) + (1 : Int)), VV.yld 14, VV.ptr (VA.own 5 0), VV.ptr (VA.own 6 0), VV.ptr (VA.own 7 0)] [ptsA n l, VB.cells [VV.slice (VA.el 0 [] (0 : Int) 0) n cap] (26 : TypeId), VB.cells [I (-1)] (3 : TypeId), VB.cells [VV.nilp] (78 : TypeId), VB.cells [VV.nils] (29 : TypeId), VB.cells [I k] (3 : TypeId), VB.cells [I 10] (30 : TypeId), VB.cells [I w.flo, I w.fhi, I (mD w.wlo ((10000 : Int) - (l ((0 : Int) + i)).slo) (l ((0 : Int) + i)).wlo (l ((0 : Int) + i)).slo), I (mU w.whi ((10000 : Int) - (l ((0 : Int) + i)).shi) (l ((0 : Int) + i)).whi (l ((0 : Int) + i)).shi)] (89 : TypeId), VB.cells [VV.ptr (VA.own 12 0)] (87 : TypeId), VB.loop false (some VEx.ret) (sl35 f) 67 [15, 16] as35 bd35, VB.vec xs.length (fun j => wtL (xs.getD j w0)) 4 (25 : TypeId)]
 else bif decide (w.fhi > (1073741824 : Int)) then
 X VEx.ret [I i, I k, I ((↑n : Int) + (1 : Int)), VV.yld 14, VV.ptr (VA.own 5 0), VV.ptr (VA.own 6 0), VV.ptr (VA.own 7 0)] [ptsA n l, VB.cells [VV.slice (VA.el 0 [] (0 : Int) 0) n cap] (26 : TypeId), VB.cells [I (-1)] (3 : TypeId), VB.cells [VV.nilp] (78 : TypeId), VB.cells [VV.nils] (29 : TypeId), VB.cells [I k] (3 : TypeId), VB.cells [I 12] (30 : TypeId), VB.cells [I w.flo, I w.fhi, I (mD w.wlo ((10000 : Int) - (l ((0 : Int) + i)).slo) (l ((0 : Int) + i)).wlo (l ((0 : Int) + i)).slo), I (mU w.whi ((10000 : Int) - (l ((0 : Int) + i)).shi) (l ((0 : Int) + i)).whi (l ((0 : Int) + i)).shi)] (89 : TypeId), VB.cells [VV.ptr (VA.own 12 0)] (87 : TypeId), VB.loop false (some VEx.ret) (sl35 f) 67 [15, 16] as35 bd35, VB.vec xs.length (fun j => wtL (xs.getD j w0)) 4 (25 : TypeId)]
 else bif decide (mU w.whi ((10000 : Int) - (l ((0 : Int) + i)).shi) (l ((0 : Int) + i)).whi (l ((0 : Int) + i)).shi > (100000 : Int)) then
 X VEx.ret [I i, I k, I ((↑n : Int) + (1 : Int)), VV.yld 14, VV.ptr (VA.own 5 0), VV.ptr (VA.own 6 0), VV.ptr (VA.own 7 0)] [ptsA n l, VB.cells [VV.slice (VA.el 0 [] (0 : Int) 0) n cap] (26 : TypeId), VB.cells [I (-1)] (3 : TypeId), VB.cells [VV.nilp] (78 : TypeId), VB.cells [VV.nils] (29 : TypeId), VB.cells [I k] (3 : TypeId), VB.cells [I 12] (30 : TypeId), VB.cells [I w.flo, I w.fhi, I (mD w.wlo ((10000 : Int) - (l ((0 : Int) + i)).slo) (l ((0 : Int) + i)).wlo (l ((0 : Int) + i)).slo), I (mU w.whi ((10000 : Int) - (l ((0 : Int) + i)).shi) (l ((0 : Int) + i)).whi (l ((0 : Int) + i)).shi)] (89 : TypeId), VB.cells [VV.ptr (VA.own 12 0)] (87 : TypeId), VB.loop false (some VEx.ret) (sl35 f) 67 [15, 16] as35 bd35, VB.vec xs.length (fun j => wtL (xs.getD j w0)) 4 (25 : TypeId)]
 else bif xs.length.beq xs.length then
 bif roomB (xs.length + 1) (32) then
 bif inK IntKind.i64 (k + (1 : Int)) then
 bif inK IntKind.i64 (i + (1 : Int)) then
 X VEx.normal [I (i + (1 : Int)), I (k + (1 : Int)), I ((↑n : Int) + (1 : Int)), VV.yld 14, VV.ptr (VA.own 5 0), VV.ptr (VA.own 6 0), VV.ptr (VA.own 7 0)] [ptsA n l, VB.cells [VV.slice (VA.el 0 [] (0 : Int) 0) n cap] (26 : TypeId), VB.cells [I (-1)] (3 : TypeId), VB.cells [VV.nilp] (78 : TypeId), VB.cells [VV.sl 15 (xs.length + 1)] (29 : TypeId), VB.cells [I 0] (3 : TypeId), VB.cells [I 0] (30 : TypeId), VB.cells [I w.flo, I w.fhi, I (mD w.wlo ((10000 : Int) - (l ((0 : Int) + i)).slo) (l ((0 : Int) + i)).wlo (l ((0 : Int) + i)).slo), I (mU w.whi ((10000 : Int) - (l ((0 : Int) + i)).shi) (l ((0 : Int) + i)).whi (l ((0 : Int) + i)).shi)] (89 : TypeId), VB.cells [VV.ptr (VA.own 12 0)] (87 : TypeId), VB.loop true none (sl35 f) 67 [15, 16] as35 bd35, VB.vec (xs.length + 1) (catG xs.length (fun j => wtL (xs.getD j w0)) fun j => List.take (4) (List.drop (j * (4)) [I w.flo, I w.fhi, I (mD w.wlo ((10000 : Int) - (l ((0 : Int) + i)).slo) (l ((0 : Int) + i)).wlo (l ((0 : Int) + i)).slo), I (mU w.whi ((10000 : Int) - (l ((0 : Int) + i)).shi) (l ((0 : Int) + i)).whi (l ((0 : Int) + i)).shi)])) (4) 25]
 else False
 else False
 else False
 else False
 else False
 else False
 else X VEx.ret [I i, I k, I ((↑n : Int) + (1 : Int)), VV.yld 14, VV.ptr (VA.own 5 0), VV.ptr (VA.own 6 0), VV.ptr (VA.own 7 0)] [ptsA n l, VB.cells [VV.slice (VA.el 0 [] (0 : Int) 0) n cap] (26 : TypeId), VB.cells [I (-1)] (3 : TypeId), VB.cells [VV.nilp] (78 : TypeId), VB.cells [VV.nils] (29 : TypeId), VB.cells [I k] (3 : TypeId), VB.cells [I 1] (30 : TypeId), VB.cells [I w.flo, I w.fhi, I w.wlo, I w.whi] (89 : TypeId), VB.cells [VV.ptr (VA.own 12 0)] (87 : TypeId), VB.loop false (some VEx.ret) (sl35 f) 67 [15, 16] as35 bd35, VB.vec xs.length (fun j => wtL (xs.getD j w0)) 4 (25 : TypeId)]
 else X VEx.ret [I i, I k, I ((↑n : Int) + (1 : Int)), VV.yld 14, VV.ptr (VA.own 5 0), VV.ptr (VA.own 6 0), VV.ptr (VA.own 7 0)] [ptsA n l, VB.cells [VV.slice (VA.el 0 [] (0 : Int) 0) n cap] (26 : TypeId), VB.cells [I (-1)] (3 : TypeId), VB.cells [VV.nilp] (78 : TypeId), VB.cells [VV.nils] (29 : TypeId), VB.cells [I k] (3 : TypeId), VB.cells [I 1] (30 : TypeId), VB.cells [I w.flo, I w.fhi, I w.wlo, I w.whi] (89 : TypeId), VB.cells [VV.ptr (VA.own 12 0)] (87 : TypeId), VB.loop false (some VEx.ret) (sl35 f) 67 [15, 16] as35 bd35, VB.vec xs.length (fun j => wtL (xs.getD j w0)) 4 (25 : TypeId)]
 else False
 else bif inK IntKind.i64 (i + (1 : Int)) then
 X VEx.normal [I (i + (1 : Int)), I k, I ((↑n : Int) + (1 : Int)), VV.yld 14, VV.ptr (VA.own 5 0), VV.ptr (VA.own 6 0), VV.ptr (VA.own 7 0)] [ptsA n l, VB.cells [VV.slice (VA.el 0 [] (0 : Int) 0) n cap] (26 : TypeId), VB.cells [I (-1)] (3 : TypeId), VB.cells [VV.nilp] (78 : TypeId), VB.cells [VV.sl 15 xs.length] (29 : TypeId), VB.cells [I 0] (3 : TypeId), VB.cells [I 0] (30 : TypeId), VB.cells [I w.flo, I w.fhi, I w.wlo, I w.whi] (89 : TypeId), VB.cells [VV.ptr (VA.own 12 0)] (87 : TypeId), VB.loop true none (sl35 f) 67 [15, 16] as35 bd35, VB.vec xs.length (fun j => wtL (xs.getD j w0)) 4 (25 : TypeId)]
 else False
 else bif decide (i < (↑n : Int)) then
 bif decide ((0 : Int) ≤ i ∧ i < (↑n : Int)) then
 (([] : List Int) = [] ∧ (0 : Int) ≤ (0 : Int) + i ∧ (0 : Int) + i < (↑n : Int)) ∧ bif decide ((l ((0 : Int) + i)).k = (0 : Int)) then
 bif spanB (l ((0 : Int) + i)).flo (l ((0 : Int) + i)).fhi (1 : Int) (1073741824 : Int) then
 bif !spanB (l ((0 : Int) + i)).wlo (l ((0 : Int) + i)).whi (0 : Int) (100000 : Int) then
 X VEx.ret [I i, I k, I ((↑n : Int) + (1 : Int)), VV.yld 14, VV.ptr (VA.own 5 0), VV.ptr (VA.own 6 0), VV.ptr (VA.own 7 0)] [ptsA n l, VB.cells [VV.slice (VA.el 0 [] (0 : Int) 0) n cap] (26 : TypeId), VB.cells [I (-1)] (3 : TypeId), VB.cells [VV.nilp] (78 : TypeId), VB.cells [VV.nils] (29 : TypeId), VB.cells [I k] (3 : TypeId), VB.cells [I 1] (30 : TypeId), VB.cells [I w.flo, I w.fhi, I w.wlo, I w.whi] (89 : TypeId), VB.cells [VV.ptr (VA.own 12 0)] (87 : TypeId), VB.loop false (some VEx.ret) (sl35 f) 67 [15, 16] as35 bd35, VB.vec xs.length (fun j => wtL (xs.getD j w0)) 4 (25 : TypeId)]
 else bif decide ((l ((0 : Int) + i)).wlo < w.wlo) then
 bif decide ((l ((0 : Int) + i)).whi < w.whi) then
 meanOk w.wlo w.flo (l ((0 : Int) + i)).wlo (l ((0 : Int) + i)).fhi ∧ meanOk w.whi w.fhi (l ((0 : Int) + i)).whi (l ((0 : Int) + i)).flo ∧ bif inK IntKind.i64 (w.flo + (l ((0 : Int) + i)).flo) then
 bif inK IntKind.i64 (w.fhi + (l ((0 : Int) + i)).fhi) then
 bif decide (w.flo + (l ((0 : Int) + i)).flo < (1 : Int)) then
 X VEx.ret [I i, I k, I ((↑n : Int) + (1 : Int)), VV.yld 14, VV.ptr (VA.own 5 0), VV.ptr (VA.own 6 0), VV.ptr (VA.own 7 0)] [ptsA n l, VB.cells [VV.slice (VA.el 0 [] (0 : Int) 0) n cap] (26 : TypeId), VB.cells [I (-1)] (3 : TypeId), VB.cells [VV.nilp] (78 : TypeId), VB.cells [VV.nils] (29 : TypeId), VB.cells [I k] (3 : TypeId), VB.cells [I 10] (30 : TypeId), VB.cells [I (w.flo + (l ((0 : Int) + i)).flo), I (w.fhi + (l ((0 : Int) + i)).fhi), I (mD w.wlo w.flo (l ((0 : Int) + i)).wlo (l ((0 : Int) + i)).fhi), I (mU w.whi w.fhi (l ((0 : Int) + i)).whi (l ((0 : Int) + i)).flo)] (89 : TypeId), VB.cells [VV.ptr (VA.own 12 0)] (87 : TypeId), VB.loop false (some VEx.ret) (sl35 f) 67 [15, 16] as35 bd35, VB.vec xs.length (fun j => wtL (xs.getD j w0)) 4 (25 : TypeId)]
 else bif decide (w.fhi + (l ((0 : Int) + i)).fhi > (1073741824 : Int)) then
 X VEx.ret [I i, I k, I ((↑n : Int) + (1 : Int)), VV.yld 14, VV.ptr (VA.own 5 0), VV.ptr (VA.own 6 0), VV.ptr (VA.own 7 0)] [ptsA n l, VB.cells [VV.slice (VA.el 0 [] (0 : Int) 0) n cap] (26 : TypeId), VB.cells [I (-1)] (3 : TypeId), VB.cells [VV.nilp] (78 : TypeId), VB.cells [VV.nils] (29 : TypeId), VB.cells [I k] (3 : TypeId), VB.cells [I 12] (30 : TypeId), VB.cells [I (w.flo + (l ((0 : Int) + i)).flo), I (w.fhi + (l ((0 : Int) + i)).fhi), I (mD w.wlo w.flo (l ((0 : Int) + i)).wlo (l ((0 : Int) + i)).fhi), I (mU w.whi w.fhi (l ((0 : Int) + i)).whi (l ((0 : Int) + i)).flo)] (89 : TypeId), VB.cells [VV.ptr (VA.own 12 0)] (87 : TypeId), VB.loop false (some VEx.ret) (sl35 f) 67 [15, 16] as35 bd35, VB.vec xs.length (fun j => wtL (xs.getD j w0)) 4 (25 : TypeId)]
 else bif decide (mU w.whi w.fhi (l ((0 : Int) + i)).whi (l ((0 : Int) + i)).flo > (100000 : Int)) then
 X VEx.ret [I i, I k, I ((↑n : Int) + (1 : Int)), VV.yld 14, VV.ptr (VA.own 5 0), VV.ptr (VA.own 6 0), VV.ptr (VA.own 7 0)] [ptsA n l, VB.cells [VV.slice (VA.el 0 [] (0 : Int) 0) n cap] (26 : TypeId), VB.cells [I (-1)] (3 : TypeId), VB.cells [VV.nilp] (78 : TypeId), VB.cells [VV.nils] (29 : TypeId), VB.cells [I k] (3 : TypeId), VB.cells [I 12] (30 : TypeId), VB.cells [I (w.flo + (l ((0 : Int) + i)).flo), I (w.fhi + (l ((0 : Int) + i)).fhi), I (mD w.wlo w.flo (l ((0 : Int) + i)).wlo (l ((0 : Int) + i)).fhi), I (mU w.whi w.fhi (l ((0 : Int) + i)).whi (l ((0 : Int) + i)).flo)] (89 : TypeId), VB.cells [VV.ptr (VA.own 12 0)] (87 : TypeId), VB.loop false (some VEx.ret) (sl35 f) 67 [15, 16] as35 bd35, VB.vec xs.length (fun j => wtL (xs.getD j w0)) 4 (25 : TypeId)]
 else bif xs.length.beq xs.length then
 bif roomB (xs.length + 1) (32) then
 bif inK IntKind.i64 (k + (1 : Int)) then
 bif inK IntKind.i64 (i + (1 : Int)) then
 X VEx.normal [I (i + (1 : Int)), I (k + (1 : Int)), I ((↑n : Int) + (1 : Int)), VV.yld 14, VV.ptr (VA.own 5 0), VV.ptr (VA.own 6 0), VV.ptr (VA.own 7 0)] [ptsA n l, VB.cells [VV.slice (VA.el 0 [] (0 : Int) 0) n cap] (26 : TypeId), VB.cells [I (-1)] (3 : TypeId), VB.cells [VV.nilp] (78 : TypeId), VB.cells [VV.sl 15 (xs.length + 1)] (29 : TypeId), VB.cells [I 0] (3 : TypeId), VB.cells [I 0] (30 : TypeId), VB.cells [I (w.flo + (l ((0 : Int) + i)).flo), I (w.fhi + (l ((0 : Int) + i)).fhi), I (mD w.wlo w.flo (l ((0 : Int) + i)).wlo (l ((0 : Int) + i)).fhi), I (mU w.whi w.fhi (l ((0 : Int) + i)).whi (l ((0 : Int) + i)).flo)] (89 : TypeId), VB.cells [VV.ptr (VA.own 12 0)] (87 : TypeId), VB.loop true none (sl35 f) 67 [15, 16] as35 bd35, VB.vec (xs.length + 1) (catG xs.length (fun j => wtL (xs.getD j w0)) fun j => List.take (4) (List.drop (j * (4)) [I (w.flo + (l ((0 : Int) + i)).flo), I (w.fhi + (l ((0 : Int) + i)).fhi), I (mD w.wlo w.flo (l ((0 : Int) + i)).wlo (l ((0 : Int) + i)).fhi), I (mU w.whi w.fhi (l ((0 : Int) + i)).whi (l ((0 : Int) + i)).flo)])) (4) 25]
 else False
 else False
 else False
 else False
 else False
 else False
 else meanOk w.wlo w.flo (l ((0 : Int) + i)).wlo (l ((0 : Int) + i)).fhi ∧ meanOk w.whi w.flo (l ((0 : Int) + i)).whi (l ((0 : Int) + i)).fhi ∧ bif inK IntKind.i64 (w.flo + (l ((0 : Int) + i)).flo) then
 bif inK IntKind.i64 (w.fhi + (l ((0 : Int) + i)).fhi) then
 bif decide (w.flo + (l ((0 : Int) + i)).flo < (1 : Int)) then
 X VEx.ret [I i, I k, I ((↑n : Int) + (1 : Int)), VV.yld 14, VV.ptr (VA.own 5 0), VV.ptr (VA.own 6 0), VV.ptr (VA.own 7 0)] [ptsA n l, VB.cells [VV.slice (VA.el 0 [] (0 : Int) 0) n cap] (26 : TypeId), VB.cells [I (-1)] (3 : TypeId), VB.cells [VV.nilp] (78 : TypeId), VB.cells [VV.nils] (29 : TypeId), VB.cells [I k] (3 : TypeId), VB.cells [I 10] (30 : TypeId), VB.cells [I (w.flo + (l ((0 : Int) + i)).flo), I (w.fhi + (l ((0 : Int) + i)).fhi), I (mD w.wlo w.flo (l ((0 : Int) + i)).wlo (l ((0 : Int) + i)).fhi), I (mU w.whi w.flo (l ((0 : Int) + i)).whi (l ((0 : Int) + i)).fhi)] (89 : TypeId), VB.cells [VV.ptr (VA.own 12 0)] (87 : TypeId), VB.loop false (some VEx.ret) (sl35 f) 67 [15, 16] as35 bd35, VB.vec xs.length (fun j => wtL (xs.getD j w0)) 4 (25 : TypeId)]
 else bif decide (w.fhi + (l ((0 : Int) + i)).fhi > (1073741824 : Int)) then
 X VEx.ret [I i, I k, I ((↑n : Int) + (1 : Int)), VV.yld 14, VV.ptr (VA.own 5 0), VV.ptr (VA.own 6 0), VV.ptr (VA.own 7 0)] [ptsA n l, VB.cells [VV.slice (VA.el 0 [] (0 : Int) 0) n cap] (26 : TypeId), VB.cells [I (-1)] (3 : TypeId), VB.cells [VV.nilp] (78 : TypeId), VB.cells [VV.nils] (29 : TypeId), VB.cells [I k] (3 : TypeId), VB.cells [I 12] (30 : TypeId), VB.cells [I (w.flo + (l ((0 : Int) + i)).flo), I (w.fhi + (l ((0 : Int) + i)).fhi), I (mD w.wlo w.flo (l ((0 : Int) + i)).wlo (l ((0 : Int) + i)).fhi), I (mU w.whi w.flo (l ((0 : Int) + i)).whi (l ((0 : Int) + i)).fhi)] (89 : TypeId), VB.cells [VV.ptr (VA.own 12 0)] (87 : TypeId), VB.loop false (some VEx.ret) (sl35 f) 67 [15, 16] as35 bd35, VB.vec xs.length (fun j => wtL (xs.getD j w0)) 4 (25 : TypeId)]
 else bif decide (mU w.whi w.flo (l ((0 : Int) + i)).whi (l ((0 : Int) + i)).fhi > (100000 : Int)) then
 X VEx.ret [I i, I k, I ((↑n : Int) + (1 : Int)), VV.yld 14, VV.ptr (VA.own 5 0), VV.ptr (VA.own 6 0), VV.ptr (VA.own 7 0)] [ptsA n l, VB.cells [VV.slice (VA.el 0 [] (0 : Int) 0) n cap] (26 : TypeId), VB.cells [I (-1)] (3 : TypeId), VB.cells [VV.nilp] (78 : TypeId), VB.cells [VV.nils] (29 : TypeId), VB.cells [I k] (3 : TypeId), VB.cells [I 12] (30 : TypeId), VB.cells [I (w.flo + (l ((0 : Int) + i)).flo), I (w.fhi + (l ((0 : Int) + i)).fhi), I (mD w.wlo w.flo (l ((0 : Int) + i)).wlo (l ((0 : Int) + i)).fhi), I (mU w.whi w.flo (l ((0 : Int) + i)).whi (l ((0 : Int) + i)).fhi)] (89 : TypeId), VB.cells [VV.ptr (VA.own 12 0)] (87 : TypeId), VB.loop false (some VEx.ret) (sl35 f) 67 [15, 16] as35 bd35, VB.vec xs.length (fun j => wtL (xs.getD j w0)) 4 (25 : TypeId)]
 else bif xs.length.beq xs.length then
 bif roomB (xs.length + 1) (32) then
 bif inK IntKind.i64 (k + (1 : Int)) then
 bif inK IntKind.i64 (i + (1 : Int)) then
 X VEx.normal [I (i + (1 : Int)), I (k + (1 : Int)), I ((↑n : Int) + (1 : Int)), VV.yld 14, VV.ptr (VA.own 5 0), VV.ptr (VA.own 6 0), VV.ptr (VA.own 7 0)] [ptsA n l, VB.cells [VV.slice (VA.el 0 [] (0 : Int) 0) n cap] (26 : TypeId), VB.cells [I (-1)] (3 : TypeId), VB.cells [VV.nilp] (78 : TypeId), VB.cells [VV.sl 15 (xs.length + 1)] (29 : TypeId), VB.cells [I 0] (3 : TypeId), VB.cells [I 0] (30 : TypeId), VB.cells [I (w.flo + (l ((0 : Int) + i)).flo), I (w.fhi + (l ((0 : Int) + i)).fhi), I (mD w.wlo w.flo (l ((0 : Int) + i)).wlo (l ((0 : Int) + i)).fhi), I (mU w.whi w.flo (l ((0 : Int) + i)).whi (l ((0 : Int) + i)).fhi)] (89 : TypeId), VB.cells [VV.ptr (VA.own 12 0)] (87 : TypeId), VB.loop true none (sl35 f) 67 [15, 16] as35 bd35, VB.vec (xs.length + 1) (catG xs.length (fun j => wtL (xs.getD j w0)) fun j => List.take (4) (List.drop (j * (4)) [I (w.flo + (l ((0 : Int) + i)).flo), I (w.fhi + (l ((0 : Int) + i)).fhi), I (mD w.wlo w.flo (l ((0 : Int) + i)).wlo (l ((0 : Int) + i)).fhi), I (mU w.whi w.flo (l ((0 : Int) + i)).whi (l ((0 : Int) + i)).fhi)])) (4) 25]
 else False
 else False
 else False
 else False
 else False
 else False
 else bif decide ((l ((0 : Int) + i)).whi < w.whi) then
 meanOk w.wlo w.fhi (l ((0 : Int) + i)).wlo (l ((0 : Int) + i)).flo ∧ meanOk w.whi w.fhi (l ((0 : Int) + i)).whi (l ((0 : Int) + i)).flo ∧ bif inK IntKind.i64 (w.flo + (l ((0 : Int) + i)).flo) then
 bif inK IntKind.i64 (w.fhi + (l ((0 : Int) + i)).fhi) then
 bif decide (w.flo + (l ((0 : Int) + i)).flo < (1 : Int)) then
 X VEx.ret [I i, I k, I ((↑n : Int) + (1 : Int)), VV.yld 14, VV.ptr (VA.own 5 0), VV.ptr (VA.own 6 0), VV.ptr (VA.own 7 0)] [ptsA n l, VB.cells [VV.slice (VA.el 0 [] (0 : Int) 0) n cap] (26 : TypeId), VB.cells [I (-1)] (3 : TypeId), VB.cells [VV.nilp] (78 : TypeId), VB.cells [VV.nils] (29 : TypeId), VB.cells [I k] (3 : TypeId), VB.cells [I 10] (30 : TypeId), VB.cells [I (w.flo + (l ((0 : Int) + i)).flo), I (w.fhi + (l ((0 : Int) + i)).fhi), I (mD w.wlo w.fhi (l ((0 : Int) + i)).wlo (l ((0 : Int) + i)).flo), I (mU w.whi w.fhi (l ((0 : Int) + i)).whi (l ((0 : Int) + i)).flo)] (89 : TypeId), VB.cells [VV.ptr (VA.own 12 0)] (87 : TypeId), VB.loop false (some VEx.ret) (sl35 f) 67 [15, 16] as35 bd35, VB.vec xs.length (fun j => wtL (xs.getD j w0)) 4 (25 : TypeId)]
 else bif decide (w.fhi + (l ((0 : Int) + i)).fhi > (1073741824 : Int)) then
 X VEx.ret [I i, I k, I ((↑n : Int) + (1 : Int)), VV.yld 14, VV.ptr (VA.own 5 0), VV.ptr (VA.own 6 0), VV.ptr (VA.own 7 0)] [ptsA n l, VB.cells [VV.slice (VA.el 0 [] (0 : Int) 0) n cap] (26 : TypeId), VB.cells [I (-1)] (3 : TypeId), VB.cells [VV.nilp] (78 : TypeId), VB.cells [VV.nils] (29 : TypeId), VB.cells [I k] (3 : TypeId), VB.cells [I 12] (30 : TypeId), VB.cells [I (w.flo + (l ((0 : Int) + i)).flo), I (w.fhi + (l ((0 : Int) + i)).fhi), I (mD w.wlo w.fhi (l ((0 : Int) + i)).wlo (l ((0 : Int) + i)).flo), I (mU w.whi w.fhi (l ((0 : Int) + i)).whi (l ((0 : Int) + i)).flo)] (89 : TypeId), VB.cells [VV.ptr (VA.own 12 0)] (87 : TypeId), VB.loop false (some VEx.ret) (sl35 f) 67 [15, 16] as35 bd35, VB.vec xs.length (fun j => wtL (xs.getD j w0)) 4 (25 : TypeId)]
 else bif decide (mU w.whi w.fhi (l ((0 : Int) + i)).whi (l ((0 : Int) + i)).flo > (100000 : Int)) then
 X VEx.ret [I i, I k, I ((↑n : Int) + (1 : Int)), VV.yld 14, VV.ptr (VA.own 5 0), VV.ptr (VA.own 6 0), VV.ptr (VA.own 7 0)] [ptsA n l, VB.cells [VV.slice (VA.el 0 [] (0 : Int) 0) n cap] (26 : TypeId), VB.cells [I (-1)] (3 : TypeId), VB.cells [VV.nilp] (78 : TypeId), VB.cells [VV.nils] (29 : TypeId), VB.cells [I k] (3 : TypeId), VB.cells [I 12] (30 : TypeId), VB.cells [I (w.flo + (l ((0 : Int) + i)).flo), I (w.fhi + (l ((0 : Int) + i)).fhi), I (mD w.wlo w.fhi (l ((0 : Int) + i)).wlo (l ((0 : Int) + i)).flo), I (mU w.whi w.fhi (l ((0 : Int) + i)).whi (l ((0 : Int) + i)).flo)] (89 : TypeId), VB.cells [VV.ptr (VA.own 12 0)] (87 : TypeId), VB.loop false (some VEx.ret) (sl35 f) 67 [15, 16] as35 bd35, VB.vec xs.length (fun j => wtL (xs.getD j w0)) 4 (25 : TypeId)]
 else bif xs.length.beq xs.length then
 bif roomB (xs.length + 1) (32) then
 bif inK IntKind.i64 (k + (1 : Int)) then
 bif inK IntKind.i64 (i + (1 : Int)) then
 X VEx.normal [I (i + (1 : Int)), I (k + (1 : Int)), I ((↑n : Int) + (1 : Int)), VV.yld 14, VV.ptr (VA.own 5 0), VV.ptr (VA.own 6 0), VV.ptr (VA.own 7 0)] [ptsA n l, VB.cells [VV.slice (VA.el 0 [] (0 : Int) 0) n cap] (26 : TypeId), VB.cells [I (-1)] (3 : TypeId), VB.cells [VV.nilp] (78 : TypeId), VB.cells [VV.sl 15 (xs.length + 1)] (29 : TypeId), VB.cells [I 0] (3 : TypeId), VB.cells [I 0] (30 : TypeId), VB.cells [I (w.flo + (l ((0 : Int) + i)).flo), I (w.fhi + (l ((0 : Int) + i)).fhi), I (mD w.wlo w.fhi (l ((0 : Int) + i)).wlo (l ((0 : Int) + i)).flo), I (mU w.whi w.fhi (l ((0 : Int) + i)).whi (l ((0 : Int) + i)).flo)] (89 : TypeId), VB.cells [VV.ptr (VA.own 12 0)] (87 : TypeId), VB.loop true none (sl35 f) 67 [15, 16] as35 bd35, VB.vec (xs.length + 1) (catG xs.length (fun j => wtL (xs.getD j w0)) fun j => List.take (4) (List.drop (j * (4)) [I (w.flo + (l ((0 : Int) + i)).flo), I (w.fhi + (l ((0 : Int) + i)).fhi), I (mD w.wlo w.fhi (l ((0 : Int) + i)).wlo (l ((0 : Int) + i)).flo), I (mU w.whi w.fhi (l ((0 : Int) + i)).whi (l ((0 : Int) + i)).flo)])) (4) 25]
 else False
 else False
 else False
 else False
 else False
 else False
 else meanOk w.wlo w.fhi (l ((0 : Int) + i)).wlo (l ((0 : Int) + i)).flo ∧ meanOk w.whi w.flo (l ((0 : Int) + i)).whi (l ((0 : Int) + i)).fhi ∧ bif inK IntKind.i64 (w.flo + (l ((0 : Int) + i)).flo) then
 bif inK IntKind.i64 (w.fhi + (l ((0 : Int) + i)).fhi) then
 bif decide (w.flo + (l ((0 : Int) + i)).flo < (1 : Int)) then
 X VEx.ret [I i, I k, I ((↑n : Int) + (1 : Int)), VV.yld 14, VV.ptr (VA.own 5 0), VV.ptr (VA.own 6 0), VV.ptr (VA.own 7 0)] [ptsA n l, VB.cells [VV.slice (VA.el 0 [] (0 : Int) 0) n cap] (26 : TypeId), VB.cells [I (-1)] (3 : TypeId), VB.cells [VV.nilp] (78 : TypeId), VB.cells [VV.nils] (29 : TypeId), VB.cells [I k] (3 : TypeId), VB.cells [I 10] (30 : TypeId), VB.cells [I (w.flo + (l ((0 : Int) + i)).flo), I (w.fhi + (l ((0 : Int) + i)).fhi), I (mD w.wlo w.fhi (l ((0 : Int) + i)).wlo (l ((0 : Int) + i)).flo), I (mU w.whi w.flo (l ((0 : Int) + i)).whi (l ((0 : Int) + i)).fhi)] (89 : TypeId), VB.cells [VV.ptr (VA.own 12 0)] (87 : TypeId), VB.loop false (some VEx.ret) (sl35 f) 67 [15, 16] as35 bd35, VB.vec xs.length (fun j => wtL (xs.getD j w0)) 4 (25 : TypeId)]
 else bif decide (w.fhi + (l ((0 : Int) + i)).fhi > (1073741824 : Int)) then
 X VEx.ret [I i, I k, I ((↑n : Int) + (1 : Int)), VV.yld 14, VV.ptr (VA.own 5 0), VV.ptr (VA.own 6 0), VV.ptr (VA.own 7 0)] [ptsA n l, VB.cells [VV.slice (VA.el 0 [] (0 : Int) 0) n cap] (26 : TypeId), VB.cells [I (-1)] (3 : TypeId), VB.cells [VV.nilp] (78 : TypeId), VB.cells [VV.nils] (29 : TypeId), VB.cells [I k] (3 : TypeId), VB.cells [I 12] (30 : TypeId), VB.cells [I (w.flo + (l ((0 : Int) + i)).flo), I (w.fhi + (l ((0 : Int) + i)).fhi), I (mD w.wlo w.fhi (l ((0 : Int) + i)).wlo (l ((0 : Int) + i)).flo), I (mU w.whi w.flo (l ((0 : Int) + i)).whi (l ((0 : Int) + i)).fhi)] (89 : TypeId), VB.cells [VV.ptr (VA.own 12 0)] (87 : TypeId), VB.loop false (some VEx.ret) (sl35 f) 67 [15, 16] as35 bd35, VB.vec xs.length (fun j => wtL (xs.getD j w0)) 4 (25 : TypeId)]
 else bif decide (mU w.whi w.flo (l ((0 : Int) + i)).whi (l ((0 : Int) + i)).fhi > (100000 : Int)) then
 X VEx.ret [I i, I k, I ((↑n : Int) + (1 : Int)), VV.yld 14, VV.ptr (VA.own 5 0), VV.ptr (VA.own 6 0), VV.ptr (VA.own 7 0)] [ptsA n l, VB.cells [VV.slice (VA.el 0 [] (0 : Int) 0) n cap] (26 : TypeId), VB.cells [I (-1)] (3 : TypeId), VB.cells [VV.nilp] (78 : TypeId), VB.cells [VV.nils] (29 : TypeId), VB.cells [I k] (3 : TypeId), VB.cells [I 12] (30 : TypeId), VB.cells [I (w.flo + (l ((0 : Int) + i)).flo), I (w.fhi + (l ((0 : Int) + i)).fhi), I (mD w.wlo w.fhi (l ((0 : Int) + i)).wlo (l ((0 : Int) + i)).flo), I (mU w.whi w.flo (l ((0 : Int) + i)).whi (l ((0 : Int) + i)).fhi)] (89 : TypeId), VB.cells [VV.ptr (VA.own 12 0)] (87 : TypeId), VB.loop false (some VEx.ret) (sl35 f) 67 [15, 16] as35 bd35, VB.vec xs.length (fun j => wtL (xs.getD j w0)) 4 (25 : TypeId)]
 else bif xs.length.beq xs.length then
 bif roomB (xs.length + 1) (32) then
 bif inK IntKind.i64 (k + (1 : Int)) then
 bif inK IntKind.i64 (i + (1 : Int)) then
 X VEx.normal [I (i + (1 : Int)), I (k + (1 : Int)), I ((↑n : Int) + (1 : Int)), VV.yld 14, VV.ptr (VA.own 5 0), VV.ptr (VA.own 6 0), VV.ptr (VA.own 7 0)] [ptsA n l, VB.cells [VV.slice (VA.el 0 [] (0 : Int) 0) n cap] (26 : TypeId), VB.cells [I (-1)] (3 : TypeId), VB.cells [VV.nilp] (78 : TypeId), VB.cells [VV.sl 15 (xs.length + 1)] (29 : TypeId), VB.cells [I 0] (3 : TypeId), VB.cells [I 0] (30 : TypeId), VB.cells [I (w.flo + (l ((0 : Int) + i)).flo), I (w.fhi + (l ((0 : Int) + i)).fhi), I (mD w.wlo w.fhi (l ((0 : Int) + i)).wlo (l ((0 : Int) + i)).flo), I (mU w.whi w.flo (l ((0 : Int) + i)).whi (l ((0 : Int) + i)).fhi)] (89 : TypeId), VB.cells [VV.ptr (VA.own 12 0)] (87 : TypeId), VB.loop true none (sl35 f) 67 [15, 16] as35 bd35, VB.vec (xs.length + 1) (catG xs.length (fun j => wtL (xs.getD j w0)) fun j => List.take (4) (List.drop (j * (4)) [I (w.flo + (l ((0 : Int) + i)).flo), I (w.fhi + (l ((0 : Int) + i)).fhi), I (mD w.wlo w.fhi (l ((0 : Int) + i)).wlo (l ((0 : Int) + i)).flo), I (mU w.whi w.flo (l ((0 : Int) + i)).whi (l ((0 : Int) + i)).fhi)])) (4) 25]
 else False
 else False
 else False
 else False
 else False
 else False
 else X VEx.ret [I i, I k, I ((↑n : Int) + (1 : Int)), VV.yld 14, VV.ptr (VA.own 5 0), VV.ptr (VA.own 6 0), VV.ptr (VA.own 7 0)] [ptsA n l, VB.cells [VV.slice (VA.el 0 [] (0 : Int) 0) n cap] (26 : TypeId), VB.cells [I (-1)] (3 : TypeId), VB.cells [VV.nilp] (78 : TypeId), VB.cells [VV.nils] (29 : TypeId), VB.cells [I k] (3 : TypeId), VB.cells [I 1] (30 : TypeId), VB.cells [I w.flo, I w.fhi, I w.wlo, I w.whi] (89 : TypeId), VB.cells [VV.ptr (VA.own 12 0)] (87 : TypeId), VB.loop false (some VEx.ret) (sl35 f) 67 [15, 16] as35 bd35, VB.vec xs.length (fun j => wtL (xs.getD j w0)) 4 (25 : TypeId)]
 else bif decide ((l ((0 : Int) + i)).k = (1 : Int)) then
 bif !spanB (l ((0 : Int) + i)).flo (l ((0 : Int) + i)).fhi (0 : Int) (1073741824 : Int) then
 X VEx.ret [I i, I k, I ((↑n : Int) + (1 : Int)), VV.yld 14, VV.ptr (VA.own 5 0), VV.ptr (VA.own 6 0), VV.ptr (VA.own 7 0)] [ptsA n l, VB.cells [VV.slice (VA.el 0 [] (0 : Int) 0) n cap] (26 : TypeId), VB.cells [I (-1)] (3 : TypeId), VB.cells [VV.nilp] (78 : TypeId), VB.cells [VV.nils] (29 : TypeId), VB.cells [I k] (3 : TypeId), VB.cells [I 1] (30 : TypeId), VB.cells [I w.flo, I w.fhi, I w.wlo, I w.whi] (89 : TypeId), VB.cells [VV.ptr (VA.own 12 0)] (87 : TypeId), VB.loop false (some VEx.ret) (sl35 f) 67 [15, 16] as35 bd35, VB.vec xs.length (fun j => wtL (xs.getD j w0)) 4 (25 : TypeId)]
 else bif inK IntKind.i64 (w.flo - (l ((0 : Int) + i)).fhi) then
 bif inK IntKind.i64 (w.fhi - (l ((0 : Int) + i)).flo) then
 bif decide (w.flo - (l ((0 : Int) + i)).fhi < (1 : Int)) then
 X VEx.ret [I i, I k, I ((↑n : Int) + (1 : Int)), VV.yld 14, VV.ptr (VA.own 5 0), VV.ptr (VA.own 6 0), VV.ptr (VA.own 7 0)] [ptsA n l, VB.cells [VV.slice (VA.el 0 [] (0 : Int) 0) n cap] (26 : TypeId), VB.cells [I (-1)] (3 : TypeId), VB.cells [VV.nilp] (78 : TypeId), VB.cells [VV.nils] (29 : TypeId), VB.cells [I k] (3 : TypeId), VB.cells [I 10] (30 : TypeId), VB.cells [I (w.flo - (l ((0 : Int) + i)).fhi), I (w.fhi - (l ((0 : Int) + i)).flo), I w.wlo, I w.whi] (89 : TypeId), VB.cells [VV.ptr (VA.own 12 0)] (87 : TypeId), VB.loop false (some VEx.ret) (sl35 f) 67 [15, 16] as35 bd35, VB.vec xs.length (fun j => wtL (xs.getD j w0)) 4 (25 : TypeId)]
 else bif decide (w.fhi - (l ((0 : Int) + i)).flo > (1073741824 : Int)) then
 X VEx.ret [I i, I k, I ((↑n : Int) + (1 : Int)), VV.yld 14, VV.ptr (VA.own 5 0), VV.ptr (VA.own 6 0), VV.ptr (VA.own 7 0)] [ptsA n l, VB.cells [VV.slice (VA.el 0 [] (0 : Int) 0) n cap] (26 : TypeId), VB.cells [I (-1)] (3 : TypeId), VB.cells [VV.nilp] (78 : TypeId), VB.cells [VV.nils] (29 : TypeId), VB.cells [I k] (3 : TypeId), VB.cells [I 12] (30 : TypeId), VB.cells [I (w.flo - (l ((0 : Int) + i)).fhi), I (w.fhi - (l ((0 : Int) + i)).flo), I w.wlo, I w.whi] (89 : TypeId), VB.cells [VV.ptr (VA.own 12 0)] (87 : TypeId), VB.loop false (some VEx.ret) (sl35 f) 67 [15, 16] as35 bd35, VB.vec xs.length (fun j => wtL (xs.getD j w0)) 4 (25 : TypeId)]
 else bif decide (w.whi > (100000 : Int)) then
 X VEx.ret [I i, I k, I ((↑n : Int) + (1 : Int)), VV.yld 14, VV.ptr (VA.own 5 0), VV.ptr (VA.own 6 0), VV.ptr (VA.own 7 0)] [ptsA n l, VB.cells [VV.slice (VA.el 0 [] (0 : Int) 0) n cap] (26 : TypeId), VB.cells [I (-1)] (3 : TypeId), VB.cells [VV.nilp] (78 : TypeId), VB.cells [VV.nils] (29 : TypeId), VB.cells [I k] (3 : TypeId), VB.cells [I 12] (30 : TypeId), VB.cells [I (w.flo - (l ((0 : Int) + i)).fhi), I (w.fhi - (l ((0 : Int) + i)).flo), I w.wlo, I w.whi] (89 : TypeId), VB.cells [VV.ptr (VA.own 12 0)] (87 : TypeId), VB.loop false (some VEx.ret) (sl35 f) 67 [15, 16] as35 bd35, VB.vec xs.length (fun j => wtL (xs.getD j w0)) 4 (25 : TypeId)]
 else bif xs.length.beq xs.length then
 bif roomB (xs.length + 1) (32) then
 bif inK IntKind.i64 (k + (1 : Int)) then
 bif inK IntKind.i64 (i + (1 : Int)) then
 X VEx.normal [I (i + (1 : Int)), I (k + (1 : Int)), I ((↑n : Int) + (1 : Int)), VV.yld 14, VV.ptr (VA.own 5 0), VV.ptr (VA.own 6 0), VV.ptr (VA.own 7 0)] [ptsA n l, VB.cells [VV.slice (VA.el 0 [] (0 : Int) 0) n cap] (26 : TypeId), VB.cells [I (-1)] (3 : TypeId), VB.cells [VV.nilp] (78 : TypeId), VB.cells [VV.sl 15 (xs.length + 1)] (29 : TypeId), VB.cells [I 0] (3 : TypeId), VB.cells [I 0] (30 : TypeId), VB.cells [I (w.flo - (l ((0 : Int) + i)).fhi), I (w.fhi - (l ((0 : Int) + i)).flo), I w.wlo, I w.whi] (89 : TypeId), VB.cells [VV.ptr (VA.own 12 0)] (87 : TypeId), VB.loop true none (sl35 f) 67 [15, 16] as35 bd35, VB.vec (xs.length + 1) (catG xs.length (fun j => wtL (xs.getD j w0)) fun j => List.take (4) (List.drop (j * (4)) [I (w.flo - (l ((0 : Int) + i)).fhi), I (w.fhi - (l ((0 : Int) + i)).flo), I w.wlo, I w.whi])) (4) 25]
 else False
 else False
 else False
 else False
 else False
 else False
 else bif decide ((l ((0 : Int) + i)).k = (2 : Int)) then
 bif !spanB (l ((0 : Int) + i)).hlo (l ((0 : Int) + i)).hhi (0 : Int) (1099511627776 : Int) then
 X VEx.ret [I i, I k, I ((↑n : Int) + (1 : Int)), VV.yld 14, VV.ptr (VA.own 5 0), VV.ptr (VA.own 6 0), VV.ptr (VA.own 7 0)] [ptsA n l, VB.cells [VV.slice (VA.el 0 [] (0 : Int) 0) n cap] (26 : TypeId), VB.cells [I (-1)] (3 : TypeId), VB.cells [VV.nilp] (78 : TypeId), VB.cells [VV.nils] (29 : TypeId), VB.cells [I k] (3 : TypeId), VB.cells [I 1] (30 : TypeId), VB.cells [I w.flo, I w.fhi, I w.wlo, I w.whi] (89 : TypeId), VB.cells [VV.ptr (VA.own 12 0)] (87 : TypeId), VB.loop false (some VEx.ret) (sl35 f) 67 [15, 16] as35 bd35, VB.vec xs.length (fun j => wtL (xs.getD j w0)) 4 (25 : TypeId)]
 else bif decide (w.fhi = (0 : Int)) then
 False
 else bif inK IntKind.i64 (quoZ (l ((0 : Int) + i)).hlo w.fhi) then
 bif inK IntKind.i64 (w.wlo + quoZ (l ((0 : Int) + i)).hlo w.fhi) then
 upOk (l ((0 : Int) + i)).hhi w.flo ∧ bif inK IntKind.i64 (w.whi + quoZ ((l ((0 : Int) + i)).hhi + w.flo - (1 : Int)) w.flo) then
 bif decide (w.flo < (1 : Int)) then
 X VEx.ret [I i, I k, I ((↑n : Int) + (1 : Int)), VV.yld 14, VV.ptr (VA.own 5 0), VV.ptr (VA.own 6 0), VV.ptr (VA.own 7 0)] [ptsA n l, VB.cells [VV.slice (VA.el 0 [] (0 : Int) 0) n cap] (26 : TypeId), VB.cells [I (-1)] (3 : TypeId), VB.cells [VV.nilp] (78 : TypeId), VB.cells [VV.nils] (29 : TypeId), VB.cells [I k] (3 : TypeId), VB.cells [I 10] (30 : TypeId), VB.cells [I w.flo, I w.fhi, I (w.wlo + quoZ (l ((0 : Int) + i)).hlo w.fhi), I (w.whi + quoZ ((l ((0 : Int) + i)).hhi + w.flo - (1 : Int)) w.flo)] (89 : TypeId), VB.cells [VV.ptr (VA.own 12 0)] (87 : TypeId), VB.loop false (some VEx.ret) (sl35 f) 67 [15, 16] as35 bd35, VB.vec xs.length (fun j => wtL (xs.getD j w0)) 4 (25 : TypeId)]
 else bif decide (w.fhi > (1073741824 : Int)) then
 X VEx.ret [I i, I k, I ((↑n : Int) + (1 : Int)), VV.yld 14, VV.ptr (VA.own 5 0), VV.ptr (VA.own 6 0), VV.ptr (VA.own 7 0)] [ptsA n l, VB.cells [VV.slice (VA.el 0 [] (0 : Int) 0) n cap] (26 : TypeId), VB.cells [I (-1)] (3 : TypeId), VB.cells [VV.nilp] (78 : TypeId), VB.cells [VV.nils] (29 : TypeId), VB.cells [I k] (3 : TypeId), VB.cells [I 12] (30 : TypeId), VB.cells [I w.flo, I w.fhi, I (w.wlo + quoZ (l ((0 : Int) + i)).hlo w.fhi), I (w.whi + quoZ ((l ((0 : Int) + i)).hhi + w.flo - (1 : Int)) w.flo)] (89 : TypeId), VB.cells [VV.ptr (VA.own 12 0)] (87 : TypeId), VB.loop false (some VEx.ret) (sl35 f) 67 [15, 16] as35 bd35, VB.vec xs.length (fun j => wtL (xs.getD j w0)) 4 (25 : TypeId)]
 else bif decide (w.whi + quoZ ((l ((0 : Int) + i)).hhi + w.flo - (1 : Int)) w.flo > (100000 : Int)) then
 X VEx.ret [I i, I k, I ((↑n : Int) + (1 : Int)), VV.yld 14, VV.ptr (VA.own 5 0), VV.ptr (VA.own 6 0), VV.ptr (VA.own 7 0)] [ptsA n l, VB.cells [VV.slice (VA.el 0 [] (0 : Int) 0) n cap] (26 : TypeId), VB.cells [I (-1)] (3 : TypeId), VB.cells [VV.nilp] (78 : TypeId), VB.cells [VV.nils] (29 : TypeId), VB.cells [I k] (3 : TypeId), VB.cells [I 12] (30 : TypeId), VB.cells [I w.flo, I w.fhi, I (w.wlo + quoZ (l ((0 : Int) + i)).hlo w.fhi), I (w.whi + quoZ ((l ((0 : Int) + i)).hhi + w.flo - (1 : Int)) w.flo)] (89 : TypeId), VB.cells [VV.ptr (VA.own 12 0)] (87 : TypeId), VB.loop false (some VEx.ret) (sl35 f) 67 [15, 16] as35 bd35, VB.vec xs.length (fun j => wtL (xs.getD j w0)) 4 (25 : TypeId)]
 else bif xs.length.beq xs.length then
 bif roomB (xs.length + 1) (32) then
 bif inK IntKind.i64 (k + (1 : Int)) then
 bif inK IntKind.i64 (i + (1 : Int)) then
 X VEx.normal [I (i + (1 : Int)), I (k + (1 : Int)), I ((↑n : Int) + (1 : Int)), VV.yld 14, VV.ptr (VA.own 5 0), VV.ptr (VA.own 6 0), VV.ptr (VA.own 7 0)] [ptsA n l, VB.cells [VV.slice (VA.el 0 [] (0 : Int) 0) n cap] (26 : TypeId), VB.cells [I (-1)] (3 : TypeId), VB.cells [VV.nilp] (78 : TypeId), VB.cells [VV.sl 15 (xs.length + 1)] (29 : TypeId), VB.cells [I 0] (3 : TypeId), VB.cells [I 0] (30 : TypeId), VB.cells [I w.flo, I w.fhi, I (w.wlo + quoZ (l ((0 : Int) + i)).hlo w.fhi), I (w.whi + quoZ ((l ((0 : Int) + i)).hhi + w.flo - (1 : Int)) w.flo)] (89 : TypeId), VB.cells [VV.ptr (VA.own 12 0)] (87 : TypeId), VB.loop true none (sl35 f) 67 [15, 16] as35 bd35, VB.vec (xs.length + 1) (catG xs.length (fun j => wtL (xs.getD j w0)) fun j => List.take (4) (List.drop (j * (4)) [I w.flo, I w.fhi, I (w.wlo + quoZ (l ((0 : Int) + i)).hlo w.fhi), I (w.whi + quoZ ((l ((0 : Int) + i)).hhi + w.flo - (1 : Int)) w.flo)])) (4) 25]
 else False
 else False
 else False
 else False
 else False
 else False
 else False
 else bif decide ((l ((0 : Int) + i)).k = (3 : Int)) then
 bif spanB (l ((0 : Int) + i)).wlo (l ((0 : Int) + i)).whi (0 : Int) (100000 : Int) then
 bif !spanB (l ((0 : Int) + i)).slo (l ((0 : Int) + i)).shi (0 : Int) (10000 : Int) then
 X VEx.ret [I i, I k, I ((↑n : Int) + (1 : Int)), VV.yld 14, VV.ptr (VA.own 5 0), VV.ptr (VA.own 6 0), VV.ptr (VA.own 7 0)] [ptsA n l, VB.cells [VV.slice (VA.el 0 [] (0 : Int) 0) n cap] (26 : TypeId), VB.cells [I (-1)] (3 : TypeId), VB.cells [VV.nilp] (78 : TypeId), VB.cells [VV.nils] (29 : TypeId), VB.cells [I k] (3 : TypeId), VB.cells [I 1] (30 : TypeId), VB.cells [I w.flo, I w.fhi, I w.wlo, I w.whi] (89 : TypeId), VB.cells [VV.ptr (VA.own 12 0)] (87 : TypeId), VB.loop false (some VEx.ret) (sl35 f) 67 [15, 16] as35 bd35, VB.vec xs.length (fun j => wtL (xs.getD j w0)) 4 (25 : TypeId)]
 else bif decide (w.wlo > (l ((0 : Int) + i)).wlo) then
 bif decide (w.whi > (l ((0 : Int) + i)).whi) then
 bif inK IntKind.i64 ((10000 : Int) - (l ((0 : Int) + i)).shi) then
 meanOk w.wlo ((10000 : Int) - (l ((0 : Int) + i)).shi) (l ((0 : Int) + i)).wlo (l ((0 : Int) + i)).shi ∧ bif inK IntKind.i64 ((10000 : Int) - (l ((0 : Int) + i)).slo) then
 meanOk w.whi ((10000 : Int) - (l ((0 : Int) + i)).slo) (l ((0 : Int) + i)).whi (l ((0 : Int) + i)).slo ∧ bif decide (w.flo < (1 : Int)) then
 X VEx.ret [I i, I k, I ((↑n : Int) + (1 : Int)), VV.yld 14, VV.ptr (VA.own 5 0), VV.ptr (VA.own 6 0), VV.ptr (VA.own 7 0)] [ptsA n l, VB.cells [VV.slice (VA.el 0 [] (0 : Int) 0) n cap] (26 : TypeId), VB.cells [I (-1)] (3 : TypeId), VB.cells [VV.nilp] (78 : TypeId), VB.cells [VV.nils] (29 : TypeId), VB.cells [I k] (3 : TypeId), VB.cells [I 10] (30 : TypeId), VB.cells [I w.flo, I w.fhi, I (mD w.wlo ((10000 : Int) - (l ((0 : Int) + i)).shi) (l ((0 : Int) + i)).wlo (l ((0 : Int) + i)).shi), I (mU w.whi ((10000 : Int) - (l ((0 : Int) + i)).slo) (l ((0 : Int) + i)).whi (l ((0 : Int) + i)).slo)] (89 : TypeId), VB.cells [VV.ptr (VA.own 12 0)] (87 : TypeId), VB.loop false (some VEx.ret) (sl35 f) 67 [15, 16] as35 bd35, VB.vec xs.length (fun j => wtL (xs.getD j w0)) 4 (25 : TypeId)]
 else bif decide (w.fhi > (1073741824 : Int)) then
 X VEx.ret [I i, I k, I ((↑n : Int) + (1 : Int)), VV.yld 14, VV.ptr (VA.own 5 0), VV.ptr (VA.own 6 0), VV.ptr (VA.own 7 0)] [ptsA n l, VB.cells [VV.slice (VA.el 0 [] (0 : Int) 0) n cap] (26 : TypeId), VB.cells [I (-1)] (3 : TypeId), VB.cells [VV.nilp] (78 : TypeId), VB.cells [VV.nils] (29 : TypeId), VB.cells [I k] (3 : TypeId), VB.cells [I 12] (30 : TypeId), VB.cells [I w.flo, I w.fhi, I (mD w.wlo ((10000 : Int) - (l ((0 : Int) + i)).shi) (l ((0 : Int) + i)).wlo (l ((0 : Int) + i)).shi), I (mU w.whi ((10000 : Int) - (l ((0 : Int) + i)).slo) (l ((0 : Int) + i)).whi (l ((0 : Int) + i)).slo)] (89 : TypeId), VB.cells [VV.ptr (VA.own 12 0)] (87 : TypeId), VB.loop false (some VEx.ret) (sl35 f) 67 [15, 16] as35 bd35, VB.vec xs.length (fun j => wtL (xs.getD j w0)) 4 (25 : TypeId)]
 else bif decide (mU w.whi ((10000 : Int) - (l ((0 : Int) + i)).slo) (l ((0 : Int) + i)).whi (l ((0 : Int) + i)).slo > (100000 : Int)) then
 X VEx.ret [I i, I k, I ((↑n : Int) + (1 : Int)), VV.yld 14, VV.ptr (VA.own 5 0), VV.ptr (VA.own 6 0), VV.ptr (VA.own 7 0)] [ptsA n l, VB.cells [VV.slice (VA.el 0 [] (0 : Int) 0) n cap] (26 : TypeId), VB.cells [I (-1)] (3 : TypeId), VB.cells [VV.nilp] (78 : TypeId), VB.cells [VV.nils] (29 : TypeId), VB.cells [I k] (3 : TypeId), VB.cells [I 12] (30 : TypeId), VB.cells [I w.flo, I w.fhi, I (mD w.wlo ((10000 : Int) - (l ((0 : Int) + i)).shi) (l ((0 : Int) + i)).wlo (l ((0 : Int) + i)).shi), I (mU w.whi ((10000 : Int) - (l ((0 : Int) + i)).slo) (l ((0 : Int) + i)).whi (l ((0 : Int) + i)).slo)] (89 : TypeId), VB.cells [VV.ptr (VA.own 12 0)] (87 : TypeId), VB.loop false (some VEx.ret) (sl35 f) 67 [15, 16] as35 bd35, VB.vec xs.length (fun j => wtL (xs.getD j w0)) 4 (25 : TypeId)]
 else bif xs.length.beq xs.length then
 bif roomB (xs.length + 1) (32) then
 bif inK IntKind.i64 (k + (1 : Int)) then
 bif inK IntKind.i64 (i + (1 : Int)) then
 X VEx.normal [I (i + (1 : Int)), I (k + (1 : Int)), I ((↑n : Int) + (1 : Int)), VV.yld 14, VV.ptr (VA.own 5 0), VV.ptr (VA.own 6 0), VV.ptr (VA.own 7 0)] [ptsA n l, VB.cells [VV.slice (VA.el 0 [] (0 : Int) 0) n cap] (26 : TypeId), VB.cells [I (-1)] (3 : TypeId), VB.cells [VV.nilp] (78 : TypeId), VB.cells [VV.sl 15 (xs.length + 1)] (29 : TypeId), VB.cells [I 0] (3 : TypeId), VB.cells [I 0] (30 : TypeId), VB.cells [I w.flo, I w.fhi, I (mD w.wlo ((10000 : Int) - (l ((0 : Int) + i)).shi) (l ((0 : Int) + i)).wlo (l ((0 : Int) + i)).shi), I (mU w.whi ((10000 : Int) - (l ((0 : Int) + i)).slo) (l ((0 : Int) + i)).whi (l ((0 : Int) + i)).slo)] (89 : TypeId), VB.cells [VV.ptr (VA.own 12 0)] (87 : TypeId), VB.loop true none (sl35 f) 67 [15, 16] as35 bd35, VB.vec (xs.length + 1) (catG xs.length (fun j => wtL (xs.getD j w0)) fun j => List.take (4) (List.drop (j * (4)) [I w.flo, I w.fhi, I (mD w.wlo ((10000 : Int) - (l ((0 : Int) + i)).shi) (l ((0 : Int) + i)).wlo (l ((0 : Int) + i)).shi), I (mU w.whi ((10000 : Int) - (l ((0 : Int) + i)).slo) (l ((0 : Int) + i)).whi (l ((0 : Int) + i)).slo)])) (4) 25]
 else False
 else False
 else False
 else False
 else False
 else False
 else bif inK IntKind.i64 ((10000 : Int) - (l ((0 : Int) + i)).shi) then
 meanOk w.wlo ((10000 : Int) - (l ((0 : Int) + i)).shi) (l ((0 : Int) + i)).wlo (l ((0 : Int) + i)).shi ∧ bif inK IntKind.i64 ((10000 : Int) - (l ((0 : Int) + i)).shi) then
 meanOk w.whi ((10000 : Int) - (l ((0 : Int) + i)).shi) (l ((0 : Int) + i)).whi (l ((0 : Int) + i)).shi ∧ bif decide (w.flo < (1 : Int)) then
 X VEx.ret [I i, I k, I ((↑n : Int) + (1 : Int)), VV.yld 14, VV.ptr (VA.own 5 0), VV.ptr (VA.own 6 0), VV.ptr (VA.own 7 0)] [ptsA n l, VB.cells [VV.slice (VA.el 0 [] (0 : Int) 0) n cap] (26 : TypeId), VB.cells [I (-1)] (3 : TypeId), VB.cells [VV.nilp] (78 : TypeId), VB.cells [VV.nils] (29 : TypeId), VB.cells [I k] (3 : TypeId), VB.cells [I 10] (30 : TypeId), VB.cells [I w.flo, I w.fhi, I (mD w.wlo ((10000 : Int) - (l ((0 : Int) + i)).shi) (l ((0 : Int) + i)).wlo (l ((0 : Int) + i)).shi), I (mU w.whi ((10000 : Int) - (l ((0 : Int) + i)).shi) (l ((0 : Int) + i)).whi (l ((0 : Int) + i)).shi)] (89 : TypeId), VB.cells [VV.ptr (VA.own 12 0)] (87 : TypeId), VB.loop false (some VEx.ret) (sl35 f) 67 [15, 16] as35 bd35, VB.vec xs.length (fun j => wtL (xs.getD j w0)) 4 (25 : TypeId)]
 else bif decide (w.fhi > (1073741824 : Int)) then
 X VEx.ret [I i, I k, I ((↑n : Int) + (1 : Int)), VV.yld 14, VV.ptr (VA.own 5 0), VV.ptr (VA.own 6 0), VV.ptr (VA.own 7 0)] [ptsA n l, VB.cells [VV.slice (VA.el 0 [] (0 : Int) 0) n cap] (26 : TypeId), VB.cells [I (-1)] (3 : TypeId), VB.cells [VV.nilp] (78 : TypeId), VB.cells [VV.nils] (29 : TypeId), VB.cells [I k] (3 : TypeId), VB.cells [I 12] (30 : TypeId), VB.cells [I w.flo, I w.fhi, I (mD w.wlo ((10000 : Int) - (l ((0 : Int) + i)).shi) (l ((0 : Int) + i)).wlo (l ((0 : Int) + i)).shi), I (mU w.whi ((10000 : Int) - (l ((0 : Int) + i)).shi) (l ((0 : Int) + i)).whi (l ((0 : Int) + i)).shi)] (89 : TypeId), VB.cells [VV.ptr (VA.own 12 0)] (87 : TypeId), VB.loop false (some VEx.ret) (sl35 f) 67 [15, 16] as35 bd35, VB.vec xs.length (fun j => wtL (xs.getD j w0)) 4 (25 : TypeId)]
 else bif decide (mU w.whi ((10000 : Int) - (l ((0 : Int) + i)).shi) (l ((0 : Int) + i)).whi (l ((0 : Int) + i)).shi > (100000 : Int)) then
 X VEx.ret [I i, I k, I ((↑n : Int) + (1 : Int)), VV.yld 14, VV.ptr (VA.own 5 0), VV.ptr (VA.own 6 0), VV.ptr (VA.own 7 0)] [ptsA n l, VB.cells [VV.slice (VA.el 0 [] (0 : Int) 0) n cap] (26 : TypeId), VB.cells [I (-1)] (3 : TypeId), VB.cells [VV.nilp] (78 : TypeId), VB.cells [VV.nils] (29 : TypeId), VB.cells [I k] (3 : TypeId), VB.cells [I 12] (30 : TypeId), VB.cells [I w.flo, I w.fhi, I (mD w.wlo ((10000 : Int) - (l ((0 : Int) + i)).shi) (l ((0 : Int) + i)).wlo (l ((0 : Int) + i)).shi), I (mU w.whi ((10000 : Int) - (l ((0 : Int) + i)).shi) (l ((0 : Int) + i)).whi (l ((0 : Int) + i)).shi)] (89 : TypeId), VB.cells [VV.ptr (VA.own 12 0)] (87 : TypeId), VB.loop false (some VEx.ret) (sl35 f) 67 [15, 16] as35 bd35, VB.vec xs.length (fun j => wtL (xs.getD j w0)) 4 (25 : TypeId)]
 else bif xs.length.beq xs.length then
 bif roomB (xs.length + 1) (32) then
 bif inK IntKind.i64 (k + (1 : Int)) then
 bif inK IntKind.i64 (i + (1 : Int)) then
 X VEx.normal [I (i + (1 : Int)), I (k + (1 : Int)), I ((↑n : Int) + (1 : Int)), VV.yld 14, VV.ptr (VA.own 5 0), VV.ptr (VA.own 6 0), VV.ptr (VA.own 7 0)] [ptsA n l, VB.cells [VV.slice (VA.el 0 [] (0 : Int) 0) n cap] (26 : TypeId), VB.cells [I (-1)] (3 : TypeId), VB.cells [VV.nilp] (78 : TypeId), VB.cells [VV.sl 15 (xs.length + 1)] (29 : TypeId), VB.cells [I 0] (3 : TypeId), VB.cells [I 0] (30 : TypeId), VB.cells [I w.flo, I w.fhi, I (mD w.wlo ((10000 : Int) - (l ((0 : Int) + i)).shi) (l ((0 : Int) + i)).wlo (l ((0 : Int) + i)).shi), I (mU w.whi ((10000 : Int) - (l ((0 : Int) + i)).shi) (l ((0 : Int) + i)).whi (l ((0 : Int) + i)).shi)] (89 : TypeId), VB.cells [VV.ptr (VA.own 12 0)] (87 : TypeId), VB.loop true none (sl35 f) 67 [15, 16] as35 bd35, VB.vec (xs.length + 1) (catG xs.length (fun j => wtL (xs.getD j w0)) fun j => List.take (4) (List.drop (j * (4)) [I w.flo, I w.fhi, I (mD w.wlo ((10000 : Int) - (l ((0 : Int) + i)).shi) (l ((0 : Int) + i)).wlo (l ((0 : Int) + i)).shi), I (mU w.whi ((10000 : Int) - (l ((0 : Int) + i)).shi) (l ((0 : Int) + i)).whi (l ((0 : Int) + i)).shi)])) (4) 25]
 else False
 else False
 else False
 else False
 else False
 else False
 else bif decide (w.whi > (l ((0 : Int) + i)).whi) then
 bif inK IntKind.i64 ((10000 : Int) - (l ((0 : Int) + i)).slo) then
 meanOk w.wlo ((10000 : Int) - (l ((0 : Int) + i)).slo) (l ((0 : Int) + i)).wlo (l ((0 : Int) + i)).slo ∧ bif inK IntKind.i64 ((10000 : Int) - (l ((0 : Int) + i)).slo) then
 meanOk w.whi ((10000 : Int) - (l ((0 : Int) + i)).slo) (l ((0 : Int) + i)).whi (l ((0 : Int) + i)).slo ∧ bif decide (w.flo < (1 : Int)) then
 X VEx.ret [I i, I k, I ((↑n : Int) + (1 : Int)), VV.yld 14, VV.ptr (VA.own 5 0), VV.ptr (VA.own 6 0), VV.ptr (VA.own 7 0)] [ptsA n l, VB.cells [VV.slice (VA.el 0 [] (0 : Int) 0) n cap] (26 : TypeId), VB.cells [I (-1)] (3 : TypeId), VB.cells [VV.nilp] (78 : TypeId), VB.cells [VV.nils] (29 : TypeId), VB.cells [I k] (3 : TypeId), VB.cells [I 10] (30 : TypeId), VB.cells [I w.flo, I w.fhi, I (mD w.wlo ((10000 : Int) - (l ((0 : Int) + i)).slo) (l ((0 : Int) + i)).wlo (l ((0 : Int) + i)).slo), I (mU w.whi ((10000 : Int) - (l ((0 : Int) + i)).slo) (l ((0 : Int) + i)).whi (l ((0 : Int) + i)).slo)] (89 : TypeId), VB.cells [VV.ptr (VA.own 12 0)] (87 : TypeId), VB.loop false (some VEx.ret) (sl35 f) 67 [15, 16] as35 bd35, VB.vec xs.length (fun j => wtL (xs.getD j w0)) 4 (25 : TypeId)]
 else bif decide (w.fhi > (1073741824 : Int)) then
 X VEx.ret [I i, I k, I ((↑n : Int) + (1 : Int)), VV.yld 14, VV.ptr (VA.own 5 0), VV.ptr (VA.own 6 0), VV.ptr (VA.own 7 0)] [ptsA n l, VB.cells [VV.slice (VA.el 0 [] (0 : Int) 0) n cap] (26 : TypeId), VB.cells [I (-1)] (3 : TypeId), VB.cells [VV.nilp] (78 : TypeId), VB.cells [VV.nils] (29 : TypeId), VB.cells [I k] (3 : TypeId), VB.cells [I 12] (30 : TypeId), VB.cells [I w.flo, I w.fhi, I (mD w.wlo ((10000 : Int) - (l ((0 : Int) + i)).slo) (l ((0 : Int) + i)).wlo (l ((0 : Int) + i)).slo), I (mU w.whi ((10000 : Int) - (l ((0 : Int) + i)).slo) (l ((0 : Int) + i)).whi (l ((0 : Int) + i)).slo)] (89 : TypeId), VB.cells [VV.ptr (VA.own 12 0)] (87 : TypeId), VB.loop false (some VEx.ret) (sl35 f) 67 [15, 16] as35 bd35, VB.vec xs.length (fun j => wtL (xs.getD j w0)) 4 (25 : TypeId)]
 else bif decide (mU w.whi ((10000 : Int) - (l ((0 : Int) + i)).slo) (l ((0 : Int) + i)).whi (l ((0 : Int) + i)).slo > (100000 : Int)) then
 X VEx.ret [I i, I k, I ((↑n : Int) + (1 : Int)), VV.yld 14, VV.ptr (VA.own 5 0), VV.ptr (VA.own 6 0), VV.ptr (VA.own 7 0)] [ptsA n l, VB.cells [VV.slice (VA.el 0 [] (0 : Int) 0) n cap] (26 : TypeId), VB.cells [I (-1)] (3 : TypeId), VB.cells [VV.nilp] (78 : TypeId), VB.cells [VV.nils] (29 : TypeId), VB.cells [I k] (3 : TypeId), VB.cells [I 12] (30 : TypeId), VB.cells [I w.flo, I w.fhi, I (mD w.wlo ((10000 : Int) - (l ((0 : Int) + i)).slo) (l ((0 : Int) + i)).wlo (l ((0 : Int) + i)).slo), I (mU w.whi ((10000 : Int) - (l ((0 : Int) + i)).slo) (l ((0 : Int) + i)).whi (l ((0 : Int) + i)).slo)] (89 : TypeId), VB.cells [VV.ptr (VA.own 12 0)] (87 : TypeId), VB.loop false (some VEx.ret) (sl35 f) 67 [15, 16] as35 bd35, VB.vec xs.length (fun j => wtL (xs.getD j w0)) 4 (25 : TypeId)]
 else bif xs.length.beq xs.length then
 bif roomB (xs.length + 1) (32) then
 bif inK IntKind.i64 (k + (1 : Int)) then
 bif inK IntKind.i64 (i + (1 : Int)) then
 X VEx.normal [I (i + (1 : Int)), I (k + (1 : Int)), I ((↑n : Int) + (1 : Int)), VV.yld 14, VV.ptr (VA.own 5 0), VV.ptr (VA.own 6 0), VV.ptr (VA.own 7 0)] [ptsA n l, VB.cells [VV.slice (VA.el 0 [] (0 : Int) 0) n cap] (26 : TypeId), VB.cells [I (-1)] (3 : TypeId), VB.cells [VV.nilp] (78 : TypeId), VB.cells [VV.sl 15 (xs.length + 1)] (29 : TypeId), VB.cells [I 0] (3 : TypeId), VB.cells [I 0] (30 : TypeId), VB.cells [I w.flo, I w.fhi, I (mD w.wlo ((10000 : Int) - (l ((0 : Int) + i)).slo) (l ((0 : Int) + i)).wlo (l ((0 : Int) + i)).slo), I (mU w.whi ((10000 : Int) - (l ((0 : Int) + i)).slo) (l ((0 : Int) + i)).whi (l ((0 : Int) + i)).slo)] (89 : TypeId), VB.cells [VV.ptr (VA.own 12 0)] (87 : TypeId), VB.loop true none (sl35 f) 67 [15, 16] as35 bd35, VB.vec (xs.length + 1) (catG xs.length (fun j => wtL (xs.getD j w0)) fun j => List.take (4) (List.drop (j * (4)) [I w.flo, I w.fhi, I (mD w.wlo ((10000 : Int) - (l ((0 : Int) + i)).slo) (l ((0 : Int) + i)).wlo (l ((0 : Int) + i)).slo), I (mU w.whi ((10000 : Int) - (l ((0 : Int) + i)).slo) (l ((0 : Int) + i)).whi (l ((0 : Int) + i)).slo)])) (4) 25]
 else False
 else False
 else False
 else False
 else False
 else False
 else bif inK IntKind.i64 ((10000 : Int) - (l ((0 : Int) + i)).slo) then
 meanOk w.wlo ((10000 : Int) - (l ((0 : Int) + i)).slo) (l ((0 : Int) + i)).wlo (l ((0 : Int) + i)).slo ∧ bif inK IntKind.i64 ((10000 : Int) - (l ((0 : Int) + i)).shi) then
 meanOk w.whi ((10000 : Int) - (l ((0 : Int) + i)).shi) (l ((0 : Int) + i)).whi (l ((0 : Int) + i)).shi ∧ bif decide (w.flo < (1 : Int)) then
 X VEx.ret [I i, I k, I ((↑n : Int) + (1 : Int)), VV.yld 14, VV.ptr (VA.own 5 0), VV.ptr (VA.own 6 0), VV.ptr (VA.own 7 0)] [ptsA n l, VB.cells [VV.slice (VA.el 0 [] (0 : Int) 0) n cap] (26 : TypeId), VB.cells [I (-1)] (3 : TypeId), VB.cells [VV.nilp] (78 : TypeId), VB.cells [VV.nils] (29 : TypeId), VB.cells [I k] (3 : TypeId), VB.cells [I 10] (30 : TypeId), VB.cells [I w.flo, I w.fhi, I (mD w.wlo ((10000 : Int) - (l ((0 : Int) + i)).slo) (l ((0 : Int) + i)).wlo (l ((0 : Int) + i)).slo), I (mU w.whi ((10000 : Int) - (l ((0 : Int) + i)).shi) (l ((0 : Int) + i)).whi (l ((0 : Int) + i)).shi)] (89 : TypeId), VB.cells [VV.ptr (VA.own 12 0)] (87 : TypeId), VB.loop false (some VEx.ret) (sl35 f) 67 [15, 16] as35 bd35, VB.vec xs.length (fun j => wtL (xs.getD j w0)) 4 (25 : TypeId)]
 else bif decide (w.fhi > (1073741824 : Int)) then
 X VEx.ret [I i, I k, I ((↑n : Int) + (1 : Int)), VV.yld 14, VV.ptr (VA.own 5 0), VV.ptr (VA.own 6 0), VV.ptr (VA.own 7 0)] [ptsA n l, VB.cells [VV.slice (VA.el 0 [] (0 : Int) 0) n cap] (26 : TypeId), VB.cells [I (-1)] (3 : TypeId), VB.cells [VV.nilp] (78 : TypeId), VB.cells [VV.nils] (29 : TypeId), VB.cells [I k] (3 : TypeId), VB.cells [I 12] (30 : TypeId), VB.cells [I w.flo, I w.fhi, I (mD w.wlo ((10000 : Int) - (l ((0 : Int) + i)).slo) (l ((0 : Int) + i)).wlo (l ((0 : Int) + i)).slo), I (mU w.whi ((10000 : Int) - (l ((0 : Int) + i)).shi) (l ((0 : Int) + i)).whi (l ((0 : Int) + i)).shi)] (89 : TypeId), VB.cells [VV.ptr (VA.own 12 0)] (87 : TypeId), VB.loop false (some VEx.ret) (sl35 f) 67 [15, 16] as35 bd35, VB.vec xs.length (fun j => wtL (xs.getD j w0)) 4 (25 : TypeId)]
 else bif decide (mU w.whi ((10000 : Int) - (l ((0 : Int) + i)).shi) (l ((0 : Int) + i)).whi (l ((0 : Int) + i)).shi > (100000 : Int)) then
 X VEx.ret [I i, I k, I ((↑n : Int) + (1 : Int)), VV.yld 14, VV.ptr (VA.own 5 0), VV.ptr (VA.own 6 0), VV.ptr (VA.own 7 0)] [ptsA n l, VB.cells [VV.slice (VA.el 0 [] (0 : Int) 0) n cap] (26 : TypeId), VB.cells [I (-1)] (3 : TypeId), VB.cells [VV.nilp] (78 : TypeId), VB.cells [VV.nils] (29 : TypeId), VB.cells [I k] (3 : TypeId), VB.cells [I 12] (30 : TypeId), VB.cells [I w.flo, I w.fhi, I (mD w.wlo ((10000 : Int) - (l ((0 : Int) + i)).slo) (l ((0 : Int) + i)).wlo (l ((0 : Int) + i)).slo), I (mU w.whi ((10000 : Int) - (l ((0 : Int) + i)).shi) (l ((0 : Int) + i)).whi (l ((0 : Int) + i)).shi)] (89 : TypeId), VB.cells [VV.ptr (VA.own 12 0)] (87 : TypeId), VB.loop false (some VEx.ret) (sl35 f) 67 [15, 16] as35 bd35, VB.vec xs.length (fun j => wtL (xs.getD j w0)) 4 (25 : TypeId)]
 else bif xs.length.beq xs.length then
 bif roomB (xs.length + 1) (32) then
 bif inK IntKind.i64 (k + (1 : Int)) then
 bif inK IntKind.i64 (i + (1 : Int)) then
 X VEx.normal [I (i + (1 : Int)), I (k + (1 : Int)), I ((↑n : Int) + (1 : Int)), VV.yld 14, VV.ptr (VA.own 5 0), VV.ptr (VA.own 6 0), VV.ptr (VA.own 7 0)] [ptsA n l, VB.cells [VV.slice (VA.el 0 [] (0 : Int) 0) n cap] (26 : TypeId), VB.cells [I (-1)] (3 : TypeId), VB.cells [VV.nilp] (78 : TypeId), VB.cells [VV.sl 15 (xs.length + 1)] (29 : TypeId), VB.cells [I 0] (3 : TypeId), VB.cells [I 0] (30 : TypeId), VB.cells [I w.flo, I w.fhi, I (mD w.wlo ((10000 : Int) - (l ((0 : Int) + i)).slo) (l ((0 : Int) + i)).wlo (l ((0 : Int) + i)).slo), I (mU w.whi ((10000 : Int) - (l ((0 : Int) + i)).shi) (l ((0 : Int) + i)).whi (l ((0 : Int) + i)).shi)] (89 : TypeId), VB.cells [VV.ptr (VA.own 12 0)] (87 : TypeId), VB.loop true none (sl35 f) 67 [15, 16] as35 bd35, VB.vec (xs.length + 1) (catG xs.length (fun j => wtL (xs.getD j w0)) fun j => List.take (4) (List.drop (j * (4)) [I w.flo, I w.fhi, I (mD w.wlo ((10000 : Int) - (l ((0 : Int) + i)).slo) (l ((0 : Int) + i)).wlo (l ((0 : Int) + i)).slo), I (mU w.whi ((10000 : Int) - (l ((0 : Int) + i)).shi) (l ((0 : Int) + i)).whi (l ((0 : Int) + i)).shi)])) (4) 25]
 else False
 else False
 else False
 else False
 else False
 else False
 else X VEx.ret [I i, I k, I ((↑n : Int) + (1 : Int)), VV.yld 14, VV.ptr (VA.own 5 0), VV.ptr (VA.own 6 0), VV.ptr (VA.own 7 0)] [ptsA n l, VB.cells [VV.slice (VA.el 0 [] (0 : Int) 0) n cap] (26 : TypeId), VB.cells [I (-1)] (3 : TypeId), VB.cells [VV.nilp] (78 : TypeId), VB.cells [VV.nils] (29 : TypeId), VB.cells [I k] (3 : TypeId), VB.cells [I 1] (30 : TypeId), VB.cells [I w.flo, I w.fhi, I w.wlo, I w.whi] (89 : TypeId), VB.cells [VV.ptr (VA.own 12 0)] (87 : TypeId), VB.loop false (some VEx.ret) (sl35 f) 67 [15, 16] as35 bd35, VB.vec xs.length (fun j => wtL (xs.getD j w0)) 4 (25 : TypeId)]
 else X VEx.ret [I i, I k, I ((↑n : Int) + (1 : Int)), VV.yld 14, VV.ptr (VA.own 5 0), VV.ptr (VA.own 6 0), VV.ptr (VA.own 7 0)] [ptsA n l, VB.cells [VV.slice (VA.el 0 [] (0 : Int) 0) n cap] (26 : TypeId), VB.cells [I (-1)] (3 : TypeId), VB.cells [VV.nilp] (78 : TypeId), VB.cells [VV.nils] (29 : TypeId), VB.cells [I k] (3 : TypeId), VB.cells [I 1] (30 : TypeId), VB.cells [I w.flo, I w.fhi, I w.wlo, I w.whi] (89 : TypeId), VB.cells [VV.ptr (VA.own 12 0)] (87 : TypeId), VB.loop false (some VEx.ret) (sl35 f) 67 [15, 16] as35 bd35, VB.vec xs.length (fun j => wtL (xs.getD j w0)) 4 (25 : TypeId)]
 else False
 else bif inK IntKind.i64 (i + (1 : Int)) then
 X VEx.normal [I (i + (1 : Int)), I k, I ((↑n : Int) + (1 : Int)), VV.yld 14, VV.ptr (VA.own 5 0), VV.ptr (VA.own 6 0), VV.ptr (VA.own 7 0)] [ptsA n l, VB.cells [VV.slice (VA.el 0 [] (0 : Int) 0) n cap] (26 : TypeId), VB.cells [I (-1)] (3 : TypeId), VB.cells [VV.nilp] (78 : TypeId), VB.cells [VV.sl 15 xs.length] (29 : TypeId), VB.cells [I 0] (3 : TypeId), VB.cells [I 0] (30 : TypeId), VB.cells [I w.flo, I w.fhi, I w.wlo, I w.whi] (89 : TypeId), VB.cells [VV.ptr (VA.own 12 0)] (87 : TypeId), VB.loop true none (sl35 f) 67 [15, 16] as35 bd35, VB.vec xs.length (fun j => wtL (xs.getD j w0)) 4 (25 : TypeId)]
 else False
 else X (VEx.exit 0) [I i, I k, I ((↑n : Int) + (1 : Int)), VV.yld 14, VV.ptr (VA.own 5 0), VV.ptr (VA.own 6 0), VV.ptr (VA.own 7 0)] [ptsA n l, VB.cells [VV.slice (VA.el 0 [] (0 : Int) 0) n cap] (26 : TypeId), VB.cells [I (-1)] (3 : TypeId), VB.cells [VV.nilp] (78 : TypeId), VB.cells [VV.sl 15 xs.length] (29 : TypeId), VB.cells [I 0] (3 : TypeId), VB.cells [I 0] (30 : TypeId), VB.cells [I w.flo, I w.fhi, I w.wlo, I w.whi] (89 : TypeId), VB.cells [VV.ptr (VA.own 12 0)] (87 : TypeId), VB.loop true none (sl35 f) 67 [15, 16] as35 bd35, VB.vec xs.length (fun j => wtL (xs.getD j w0)) 4 (25 : TypeId)]) := by kernel_rfl


end Go.Sx.Str

/- stream: points of a list, one behind another. -/

namespace Go.Sx.Str
open Go Go.Sx Go.Proofs
set_option maxRecDepth 100000

theorem room32 {n : Nat} (h : n ≤ 1048576) : roomB n 32 = true := by
  simp only [roomB, Bool.and_eq_true]
  exact ⟨Nat.ble_eq_true_of_le (by omega), Nat.ble_eq_true_of_le (by omega)⟩

theorem fit_snocW (xs : List Wt) (w : Wt) : (vecW (xs ++ [w])).fit (.vec (xs.length + 1) (catG xs.length (fun j => wtL (xs.getD j w0)) fun j => List.take 4 (List.drop (j * 4) (wtL w))) 4 25) := by
  refine ⟨by simp, rfl, rfl, fun j hj => ?_⟩
  simp only [List.length_append, List.length_singleton] at hj
  simp only [catG]
  by_cases h : j < xs.length
  · rw [blt_t h]
    simp [List.getD_eq_getElem?_getD, List.getElem?_append_left h]
  · rw [blt_f (by omega)]
    have : j = xs.length := by omega
    subst this
    simp [wtL]

section
variable {n cap : Nat} {l : Int → Pt} {f w : Wt} {xs : List Wt}

noncomputable def BFr (n cap : Nat) (l : Int → Pt) (f : Wt) (w : Wt) (xs : List Wt) (k e : Int) : List VB := [ptsA n l, .cells [.slice (.el 0 [] 0 0) n cap] 26, .cells [I (-1)] 3, .cells [.nilp] 78, .cells [.nils] 29, .cells [I k] 3, .cells [I e] 30, .cells (wtL w) 89, .cells [.ptr (.own 12 0)] 87, rec35r f, vecW xs]

/-- What is known behind valid points is valid, if there is no error. -/
theorem mD_mU {t f u g t' f' u' g' F G : Int} (h1 : mD t f u g * (F + G) ≤ t * F + u * G) (h2 : t' * F + u' * G ≤ mU t' f' u' g' * (F + G)) (ht : t ≤ t') (hu : u ≤ u') (hF : 0 ≤ F) (hG : 0 ≤ G) (h : 0 < F + G) : mD t f u g ≤ mU t' f' u' g' := by
  have a1 : t * F ≤ t' * F := Int.mul_le_mul_of_nonneg_right ht hF
  have a2 : u * G ≤ u' * G := Int.mul_le_mul_of_nonneg_right hu hG
  exact Int.le_of_mul_le_mul_right (by omega) h

/-- A mean with other weights is no less, if more is taken of what is more. -/
theorem mD_less {t u f g F G : Int} (ht : 0 ≤ t) (hu : 0 ≤ u) (hf : 0 ≤ f) (hg : 0 ≤ g) (hF : 0 ≤ F) (hG : 0 ≤ G) (h : 0 < f + g) (hle : (t - u) * (F * g - f * G) ≥ 0) : mD t f u g * (F + G) ≤ t * F + u * G := by
  obtain ⟨_, h2⟩ := mD_le ht hu hf hg h
  have h3 : mD t f u g * (F + G) * (f + g) ≤ (t * F + u * G) * (f + g) := by
    have e1 : mD t f u g * (F + G) * (f + g) = mD t f u g * (f + g) * (F + G) := by ac_rfl
    have a1 : mD t f u g * (f + g) * (F + G) ≤ (t * f + u * g) * (F + G) := Int.mul_le_mul_of_nonneg_right h2 (by omega)
    have e2 : (t * F + u * G) * (f + g) - (t * f + u * g) * (F + G) = (t - u) * (F * g - f * G) := by
      simp only [Int.add_mul, Int.mul_add, Int.sub_mul, Int.mul_sub]
      have : t * F * f = t * f * F := by ac_rfl
      have : u * G * g = u * g * G := by ac_rfl
      have : t * (F * g) = t * F * g := by ac_rfl
      have : t * (f * G) = t * f * G := by ac_rfl
      have : u * (F * g) = u * g * F := by ac_rfl
      have : u * (f * G) = u * G * f := by ac_rfl
      omega
    rw [e1]
    omega
  exact Int.le_of_mul_le_mul_right h3 h

theorem mU_more {t u f g F G : Int} (ht : 0 ≤ t) (hu : 0 ≤ u) (hf : 0 ≤ f) (hg : 0 ≤ g) (hF : 0 ≤ F) (hG : 0 ≤ G) (h : 0 < f + g) (hle : (t - u) * (F * g - f * G) ≤ 0) : t * F + u * G ≤ mU t f u g * (F + G) := by
  obtain ⟨_, h2⟩ := mU_ge ht hu hf hg h
  have h3 : (t * F + u * G) * (f + g) ≤ mU t f u g * (F + G) * (f + g) := by
    have e1 : mU t f u g * (F + G) * (f + g) = mU t f u g * (f + g) * (F + G) := by ac_rfl
    have a1 : (t * f + u * g) * (F + G) ≤ mU t f u g * (f + g) * (F + G) := Int.mul_le_mul_of_nonneg_right h2 (by omega)
    have e2 : (t * F + u * G) * (f + g) - (t * f + u * g) * (F + G) = (t - u) * (F * g - f * G) := by
      simp only [Int.add_mul, Int.mul_add, Int.sub_mul, Int.mul_sub]
      have : t * F * f = t * f * F := by ac_rfl
      have : u * G * g = u * g * G := by ac_rfl
      have : t * (F * g) = t * F * g := by ac_rfl
      have : t * (f * G) = t * f * G := by ac_rfl
      have : u * (F * g) = u * g * F := by ac_rfl
      have : u * (f * G) = u * G * f := by ac_rfl
      omega
    rw [e1]
    omega
  exact Int.le_of_mul_le_mul_right h3 h
end
end Go.Sx.Str

/- stream: what a point does, holds what is true (plain). -/

namespace Go.Sx.Str
open Go Go.Sx Go.Proofs
set_option maxRecDepth 100000

/-- A valid point, by its kind. -/
inductive PtOk (p : Pt) : Prop where
  | join (k : p.k = 0) (f : 1 ≤ p.flo ∧ p.flo ≤ p.fhi ∧ p.fhi ≤ 1073741824) (w : 0 ≤ p.wlo ∧ p.wlo ≤ p.whi ∧ p.whi ≤ 100000)
  | draw (k : p.k = 1) (f : 0 ≤ p.flo ∧ p.flo ≤ p.fhi ∧ p.fhi ≤ 1073741824)
  | add (k : p.k = 2) (h : 0 ≤ p.hlo ∧ p.hlo ≤ p.hhi ∧ p.hhi ≤ 1099511627776)
  | air (k : p.k = 3) (w : 0 ≤ p.wlo ∧ p.wlo ≤ p.whi ∧ p.whi ≤ 100000) (s : 0 ≤ p.slo ∧ p.slo ≤ p.shi ∧ p.shi ≤ 10000)

theorem ptB_iff {p : Pt} : ptB p = true ↔ PtOk p := by
  unfold ptB
  constructor
  · intro h
    by_cases k0 : p.k = 0
    · rw [decide_eq_true k0] at h
      simp only [cond_true, Bool.and_eq_true, spanB_iff] at h
      exact .join k0 h.1 h.2
    · rw [decide_eq_false k0] at h
      by_cases k1 : p.k = 1
      · rw [decide_eq_true k1] at h
        simp only [cond_false, cond_true, spanB_iff] at h
        exact .draw k1 h
      · rw [decide_eq_false k1] at h
        by_cases k2 : p.k = 2
        · rw [decide_eq_true k2] at h
          simp only [cond_false, cond_true, spanB_iff] at h
          exact .add k2 h
        · rw [decide_eq_false k2] at h
          by_cases k3 : p.k = 3
          · rw [decide_eq_true k3] at h
            simp only [cond_false, cond_true, Bool.and_eq_true, spanB_iff] at h
            exact .air k3 h.1 h.2
          · rw [decide_eq_false k3] at h; cases h
  · rintro (⟨k, h1, h2⟩ | ⟨k, h1⟩ | ⟨k, h1⟩ | ⟨k, h1, h2⟩)
    · rw [decide_eq_true k]; simp only [cond_true, Bool.and_eq_true, spanB_iff]; exact ⟨h1, h2⟩
    · rw [decide_eq_false (by omega), decide_eq_true k]; simp only [cond_false, cond_true, spanB_iff]; exact h1
    · rw [decide_eq_false (by omega), decide_eq_false (by omega), decide_eq_true k]; simp only [cond_false, cond_true, spanB_iff]; exact h1
    · rw [decide_eq_false (by omega), decide_eq_false (by omega), decide_eq_false (by omega), decide_eq_true k]; simp only [cond_false, cond_true, Bool.and_eq_true, spanB_iff]; exact ⟨h1, h2⟩

theorem step0 {w : Wt} {p : Pt} (k : p.k = 0) : stepW w p = joinW w p := by unfold stepW; rw [decide_eq_true k]; rfl
theorem step1 {w : Wt} {p : Pt} (k : p.k = 1) : stepW w p = drawW w p := by unfold stepW; rw [decide_eq_false (by omega), decide_eq_true k]; rfl
theorem step2 {w : Wt} {p : Pt} (k : p.k = 2) : stepW w p = addW w p := by unfold stepW; rw [decide_eq_false (by omega), decide_eq_false (by omega), decide_eq_true k]; rfl
theorem step3 {w : Wt} {p : Pt} (k : p.k = 3) : stepW w p = airW w p := by unfold stepW; rw [decide_eq_false (by omega), decide_eq_false (by omega), decide_eq_false (by omega)]; rfl

section
variable {w : Wt} {p : Pt} {F G S : Int}

theorem nn_mul {a b c d : Int} (h1 : a ≤ b) (h2 : c ≤ d) (ha : 0 ≤ a) (hc : 0 ≤ c) : a * c ≤ b * d :=
  Int.le_trans (Int.mul_le_mul_of_nonneg_right h1 hc) (Int.mul_le_mul_of_nonneg_left h2 (by omega))

theorem join_lo (hw : WOk w) (f : 1 ≤ p.flo ∧ p.flo ≤ p.fhi) (hp : 0 ≤ p.wlo) (hF : w.flo ≤ F ∧ F ≤ w.fhi) (hG : p.flo ≤ G ∧ G ≤ p.fhi) : (joinW w p).wlo * (F + G) ≤ w.wlo * F + p.wlo * G := by
  have h1 := hw.f
  have h2 := hw.w
  unfold joinW
  dsimp only
  by_cases c : p.wlo < w.wlo
  · rw [if_pos c]
    refine mD_less h2.1 hp (by omega) (by omega) (by omega) (by omega) (by omega) ?_
    have := nn_mul hF.1 hG.2 (by omega) (by omega)
    have e : w.flo * G ≤ F * p.fhi := this
    exact Int.mul_nonneg (by omega) (by omega)
  · rw [if_neg c]
    refine mD_less h2.1 hp (by omega) (by omega) (by omega) (by omega) (by omega) ?_
    have e : F * p.flo ≤ w.fhi * G := nn_mul hF.2 hG.1 (by omega) (by omega)
    exact Int.mul_nonneg_of_nonpos_of_nonpos (by omega) (by omega)

theorem join_hi (hw : WOk w) (f : 1 ≤ p.flo ∧ p.flo ≤ p.fhi) (hp : 0 ≤ p.whi) (hF : w.flo ≤ F ∧ F ≤ w.fhi) (hG : p.flo ≤ G ∧ G ≤ p.fhi) : w.whi * F + p.whi * G ≤ (joinW w p).whi * (F + G) := by
  have h1 := hw.f
  have h2 := hw.w
  unfold joinW
  dsimp only
  by_cases c : p.whi < w.whi
  · rw [if_pos c]
    refine mU_more (by omega) hp (by omega) (by omega) (by omega) (by omega) (by omega) ?_
    have e : F * p.flo ≤ w.fhi * G := nn_mul hF.2 hG.1 (by omega) (by omega)
    exact Int.mul_nonpos_of_nonneg_of_nonpos (by omega) (by omega)
  · rw [if_neg c]
    refine mU_more (by omega) hp (by omega) (by omega) (by omega) (by omega) (by omega) ?_
    have e : w.flo * G ≤ F * p.fhi := nn_mul hF.1 hG.2 (by omega) (by omega)
    exact Int.mul_nonpos_of_nonpos_of_nonneg (by omega) (by omega)

theorem sh_eq {s S : Int} : (10000 - S) * s - (10000 - s) * S = 10000 * (s - S) := by
  simp only [Int.sub_mul, Int.mul_sub]
  have : S * s = s * S := Int.mul_comm _ _
  omega

theorem air_lo (hw : WOk w) (hp : 0 ≤ p.wlo) (s : 0 ≤ p.slo ∧ p.slo ≤ p.shi ∧ p.shi ≤ 10000) (hS : p.slo ≤ S ∧ S ≤ p.shi) : (airW w p).wlo * 10000 ≤ w.wlo * (10000 - S) + p.wlo * S := by
  have h2 := hw.w
  have e0 : (10000 - S) + S = (10000 : Int) := by omega
  unfold airW
  dsimp only
  by_cases c : w.wlo > p.wlo
  · rw [if_pos c]
    have := mD_less (t := w.wlo) (u := p.wlo) (f := 10000 - p.shi) (g := p.shi) (F := 10000 - S) (G := S) h2.1 hp (by omega) (by omega) (by omega) (by omega) (by omega) (by rw [sh_eq]; exact Int.mul_nonneg (by omega) (by omega))
    rw [e0] at this; exact this
  · rw [if_neg c]
    have := mD_less (t := w.wlo) (u := p.wlo) (f := 10000 - p.slo) (g := p.slo) (F := 10000 - S) (G := S) h2.1 hp (by omega) (by omega) (by omega) (by omega) (by omega) (by rw [sh_eq]; exact Int.mul_nonneg_of_nonpos_of_nonpos (by omega) (by omega))
    rw [e0] at this; exact this

theorem air_hi (hw : WOk w) (hp : 0 ≤ p.whi) (s : 0 ≤ p.slo ∧ p.slo ≤ p.shi ∧ p.shi ≤ 10000) (hS : p.slo ≤ S ∧ S ≤ p.shi) : w.whi * (10000 - S) + p.whi * S ≤ (airW w p).whi * 10000 := by
  have h2 := hw.w
  have e0 : (10000 - S) + S = (10000 : Int) := by omega
  unfold airW
  dsimp only
  by_cases c : w.whi > p.whi
  · rw [if_pos c]
    have := mU_more (t := w.whi) (u := p.whi) (f := 10000 - p.slo) (g := p.slo) (F := 10000 - S) (G := S) (by omega) hp (by omega) (by omega) (by omega) (by omega) (by omega) (by rw [sh_eq]; exact Int.mul_nonpos_of_nonneg_of_nonpos (by omega) (by omega))
    rw [e0] at this; exact this
  · rw [if_neg c]
    have := mU_more (t := w.whi) (u := p.whi) (f := 10000 - p.shi) (g := p.shi) (F := 10000 - S) (G := S) (by omega) hp (by omega) (by omega) (by omega) (by omega) (by omega) (by rw [sh_eq]; exact Int.mul_nonpos_of_nonpos_of_nonneg (by omega) (by omega))
    rw [e0] at this; exact this

theorem errW_iff {w : Wt} : errW w = 0 ↔ 1 ≤ w.flo ∧ w.fhi ≤ 1073741824 ∧ w.whi ≤ 100000 := by
  unfold errW
  by_cases h1 : w.flo < 1
  · rw [decide_eq_true h1]; simp; omega
  · rw [decide_eq_false h1]
    by_cases h2 : w.fhi > 1073741824
    · rw [decide_eq_true h2]; simp; omega
    · rw [decide_eq_false h2]
      by_cases h3 : w.whi > 100000
      · rw [decide_eq_true h3]; simp; omega
      · rw [decide_eq_false h3]; simp; omega

theorem step_ok (hw : WOk w) (hp : PtOk p) (he : errW (stepW w p) = 0) : WOk (stepW w p) := by
  obtain ⟨e1, e2, e3⟩ := errW_iff.1 he
  have h1 := hw.f
  have h2 := hw.w
  rcases hp with ⟨k, f, v⟩ | ⟨k, f⟩ | ⟨k, h⟩ | ⟨k, v, s⟩
  · rw [step0 k] at *
    have a1 := join_lo (p := p) hw ⟨f.1, f.2.1⟩ v.1 (F := w.flo) (G := p.flo) (by omega) (by omega)
    have a2 := join_hi (p := p) hw ⟨f.1, f.2.1⟩ (by omega) (F := w.flo) (G := p.flo) (by omega) (by omega)
    have a3 : w.wlo * w.flo ≤ w.whi * w.flo := Int.mul_le_mul_of_nonneg_right h2.2.1 (by omega)
    have a4 : p.wlo * p.flo ≤ p.whi * p.flo := Int.mul_le_mul_of_nonneg_right v.2.1 (by omega)
    have a5 : (joinW w p).wlo ≤ (joinW w p).whi := Int.le_of_mul_le_mul_right (show (joinW w p).wlo * (w.flo + p.flo) ≤ (joinW w p).whi * (w.flo + p.flo) by omega) (by omega)
    have a6 : 0 ≤ (joinW w p).wlo := by
      unfold joinW
      dsimp only
      split
      · exact (mD_le h2.1 v.1 (by omega) (by omega) (by omega)).1
      · exact (mD_le h2.1 v.1 (by omega) (by omega) (by omega)).1
    exact ⟨⟨e1, by show w.flo + p.flo ≤ w.fhi + p.fhi; omega, e2⟩, a6, a5, e3⟩
  · rw [step1 k] at *
    exact ⟨⟨e1, by show w.flo - p.fhi ≤ w.fhi - p.flo; omega, e2⟩, h2.1, h2.2.1, e3⟩
  · rw [step2 k] at *
    have q1 : 0 ≤ quoZ p.hlo w.fhi := (quo_in h.1 (by omega)).1
    have q2 : quoZ p.hlo w.fhi ≤ quoZ (p.hhi + w.flo - 1) w.flo := by
      rw [quoZ_nn h.1, quoZ_nn (by omega)]
      refine Int.le_trans (Int.ediv_le_ediv (by omega) (show p.hlo ≤ p.hhi + w.flo - 1 by omega)) ?_
      refine (Int.le_ediv_iff_mul_le (by omega)).2 ?_
      have a1 : (p.hhi + w.flo - 1) / w.fhi * w.fhi ≤ p.hhi + w.flo - 1 := Int.ediv_mul_le _ (by omega)
      have a2 : (p.hhi + w.flo - 1) / w.fhi * w.flo ≤ (p.hhi + w.flo - 1) / w.fhi * w.fhi := Int.mul_le_mul_of_nonneg_left h1.2.1 (Int.ediv_nonneg (by omega) (by omega))
      omega
    exact ⟨⟨e1, by show w.flo ≤ w.fhi; omega, e2⟩, by show 0 ≤ w.wlo + _; omega, by show w.wlo + quoZ p.hlo w.fhi ≤ w.whi + quoZ (p.hhi + w.flo - 1) w.flo; omega, e3⟩
  · rw [step3 k] at *
    have a1 := air_lo (p := p) hw v.1 s (S := p.slo) (by omega)
    have a2 := air_hi (p := p) hw (by omega) s (S := p.slo) (by omega)
    have a3 : w.wlo * (10000 - p.slo) ≤ w.whi * (10000 - p.slo) := Int.mul_le_mul_of_nonneg_right h2.2.1 (by omega)
    have a4 : p.wlo * p.slo ≤ p.whi * p.slo := Int.mul_le_mul_of_nonneg_right v.2.1 (by omega)
    have a6 : 0 ≤ (airW w p).wlo := by
      unfold airW
      dsimp only
      split
      · exact (mD_le h2.1 v.1 (by omega) (by omega) (by omega)).1
      · exact (mD_le h2.1 v.1 (by omega) (by omega) (by omega)).1
    exact ⟨⟨e1, by show w.flo ≤ w.fhi; omega, e2⟩, a6, by omega, e3⟩
end
end Go.Sx.Str

/- stream: a round of the loop over points as a function (plain). -/

namespace Go.Sx.Str
open Go Go.Sx Go.Proofs
set_option maxRecDepth 100000

/-- What follows a deed. -/
def tailT (R : Int → Wt → Prop) (N : Wt → Prop) (w : Wt) : Prop :=
  bif decide (w.flo < 1) then R 10 w else bif decide (w.fhi > 1073741824) then R 12 w else bif decide (w.whi > 100000) then R 12 w else N w

/-- A round: R an error and the water, N none. -/
def deedT (w : Wt) (p : Pt) (R : Int → Wt → Prop) (N : Wt → Prop) : Prop :=
  bif decide (p.k = 0) then
  bif spanB p.flo p.fhi 1 (1073741824 : Int) then
  bif !spanB p.wlo p.whi 0 (100000 : Int) then
  R 1 w
  else bif decide (p.wlo < w.wlo) then
  bif decide (p.whi < w.whi) then
  meanOk w.wlo w.flo p.wlo p.fhi ∧ meanOk w.whi w.fhi p.whi p.flo ∧ bif inK IntKind.i64 (w.flo + p.flo) then
  bif inK IntKind.i64 (w.fhi + p.fhi) then
  tailT R N ⟨(w.flo + p.flo), (w.fhi + p.fhi), (mD w.wlo w.flo p.wlo p.fhi), (mU w.whi w.fhi p.whi p.flo)⟩
  else False
  else False
  else meanOk w.wlo w.flo p.wlo p.fhi ∧ meanOk w.whi w.flo p.whi p.fhi ∧ bif inK IntKind.i64 (w.flo + p.flo) then
  bif inK IntKind.i64 (w.fhi + p.fhi) then
  tailT R N ⟨(w.flo + p.flo), (w.fhi + p.fhi), (mD w.wlo w.flo p.wlo p.fhi), (mU w.whi w.flo p.whi p.fhi)⟩
  else False
  else False
  else bif decide (p.whi < w.whi) then
  meanOk w.wlo w.fhi p.wlo p.flo ∧ meanOk w.whi w.fhi p.whi p.flo ∧ bif inK IntKind.i64 (w.flo + p.flo) then
  bif inK IntKind.i64 (w.fhi + p.fhi) then
  tailT R N ⟨(w.flo + p.flo), (w.fhi + p.fhi), (mD w.wlo w.fhi p.wlo p.flo), (mU w.whi w.fhi p.whi p.flo)⟩
  else False
  else False
  else meanOk w.wlo w.fhi p.wlo p.flo ∧ meanOk w.whi w.flo p.whi p.fhi ∧ bif inK IntKind.i64 (w.flo + p.flo) then
  bif inK IntKind.i64 (w.fhi + p.fhi) then
  tailT R N ⟨(w.flo + p.flo), (w.fhi + p.fhi), (mD w.wlo w.fhi p.wlo p.flo), (mU w.whi w.flo p.whi p.fhi)⟩
  else False
  else False
  else R 1 w
  else bif decide (p.k = 1) then
  bif !spanB p.flo p.fhi 0 (1073741824 : Int) then
  R 1 w
  else bif inK IntKind.i64 (w.flo - p.fhi) then
  bif inK IntKind.i64 (w.fhi - p.flo) then
  tailT R N ⟨(w.flo - p.fhi), (w.fhi - p.flo), w.wlo, w.whi⟩
  else False
  else False
  else bif decide (p.k = (2 : Int)) then
  bif !spanB p.hlo p.hhi 0 (1099511627776 : Int) then
  R 1 w
  else bif decide (w.fhi = 0) then
  False
  else bif inK IntKind.i64 (quoZ p.hlo w.fhi) then
  bif inK IntKind.i64 (w.wlo + quoZ p.hlo w.fhi) then
  upOk p.hhi w.flo ∧ bif inK IntKind.i64 (w.whi + quoZ (p.hhi + w.flo - 1) w.flo) then
  tailT R N ⟨w.flo, w.fhi, (w.wlo + quoZ p.hlo w.fhi), (w.whi + quoZ (p.hhi + w.flo - 1) w.flo)⟩
  else False
  else False
  else False
  else bif decide (p.k = (3 : Int)) then
  bif spanB p.wlo p.whi 0 (100000 : Int) then
  bif !spanB p.slo p.shi 0 (10000 : Int) then
  R 1 w
  else bif decide (w.wlo > p.wlo) then
  bif decide (w.whi > p.whi) then
  bif inK IntKind.i64 ((10000 : Int) - p.shi) then
  meanOk w.wlo ((10000 : Int) - p.shi) p.wlo p.shi ∧ bif inK IntKind.i64 ((10000 : Int) - p.slo) then
  meanOk w.whi ((10000 : Int) - p.slo) p.whi p.slo ∧ tailT R N ⟨w.flo, w.fhi, (mD w.wlo ((10000 : Int) - p.shi) p.wlo p.shi), (mU w.whi ((10000 : Int) - p.slo) p.whi p.slo)⟩
  else False
  else False
  else bif inK IntKind.i64 ((10000 : Int) - p.shi) then
  meanOk w.wlo ((10000 : Int) - p.shi) p.wlo p.shi ∧ bif inK IntKind.i64 ((10000 : Int) - p.shi) then
  meanOk w.whi ((10000 : Int) - p.shi) p.whi p.shi ∧ tailT R N ⟨w.flo, w.fhi, (mD w.wlo ((10000 : Int) - p.shi) p.wlo p.shi), (mU w.whi ((10000 : Int) - p.shi) p.whi p.shi)⟩
  else False
  else False
  else bif decide (w.whi > p.whi) then
  bif inK IntKind.i64 ((10000 : Int) - p.slo) then
  meanOk w.wlo ((10000 : Int) - p.slo) p.wlo p.slo ∧ bif inK IntKind.i64 ((10000 : Int) - p.slo) then
  meanOk w.whi ((10000 : Int) - p.slo) p.whi p.slo ∧ tailT R N ⟨w.flo, w.fhi, (mD w.wlo ((10000 : Int) - p.slo) p.wlo p.slo), (mU w.whi ((10000 : Int) - p.slo) p.whi p.slo)⟩
  else False
  else False
  else bif inK IntKind.i64 ((10000 : Int) - p.slo) then
  meanOk w.wlo ((10000 : Int) - p.slo) p.wlo p.slo ∧ bif inK IntKind.i64 ((10000 : Int) - p.shi) then
  meanOk w.whi ((10000 : Int) - p.shi) p.whi p.shi ∧ tailT R N ⟨w.flo, w.fhi, (mD w.wlo ((10000 : Int) - p.slo) p.wlo p.slo), (mU w.whi ((10000 : Int) - p.shi) p.whi p.shi)⟩
  else False
  else False
  else R 1 w
  else R 1 w

section
variable {w : Wt} {p : Pt} {R : Int → Wt → Prop} {N : Wt → Prop}

theorem tailT_of (h1 : errW w ≠ 0 → R (errW w) w) (h2 : errW w = 0 → N w) : tailT R N w := by
  unfold tailT
  unfold errW at h1 h2
  by_cases a : w.flo < 1
  · rw [decide_eq_true a] at h1 h2 ⊢; exact h1 (show (10 : Int) ≠ 0 by decide)
  · rw [decide_eq_false a] at h1 h2 ⊢
    by_cases b : w.fhi > 1073741824
    · rw [decide_eq_true b] at h1 h2 ⊢; exact h1 (show (12 : Int) ≠ 0 by decide)
    · rw [decide_eq_false b] at h1 h2 ⊢
      by_cases c : w.whi > 100000
      · rw [decide_eq_true c] at h1 h2 ⊢; rw [Bool.or_true] at h1; exact h1 (show (12 : Int) ≠ 0 by decide)
      · rw [decide_eq_false c] at h1 h2 ⊢; exact h2 rfl

theorem not_b {b : Bool} (h : b = true) : (!b) = false := by rw [h]; rfl
theorem cond_n {b : Bool} {p q : Prop} (h : b = true) (h2 : q) : (bif !b then p else q) := by rw [h]; exact h2
theorem cond_nf {b : Bool} {p q : Prop} (h : b = false) (h2 : p) : (bif !b then p else q) := by rw [h]; exact h2
theorem cond_t {b : Bool} {p q : Prop} (h : b = true) (h2 : p) : (bif b then p else q) := by rw [h]; exact h2
theorem cond_f {b : Bool} {p q : Prop} (h : b = false) (h2 : q) : (bif b then p else q) := by rw [h]; exact h2

theorem deedT_of (hw : WOk w) (h1 : ptB p = false → R 1 w) (h2 : ptB p = true → errW (stepW w p) ≠ 0 → R (errW (stepW w p)) (stepW w p)) (h3 : ptB p = true → errW (stepW w p) = 0 → N (stepW w p)) : deedT w p R N := by
  obtain ⟨f1, f2, f3⟩ := hw.f
  obtain ⟨v1, v2, v3⟩ := hw.w
  have ht : ∀ w', PtOk p → stepW w p = w' → tailT R N w' := fun w' hp e => by
    subst e
    exact tailT_of (h2 (ptB_iff.2 hp)) (h3 (ptB_iff.2 hp))
  have hb : (PtOk p → False) → R 1 w := fun h => h1 (Bool.eq_false_iff.2 fun hp => h (ptB_iff.1 hp))
  unfold deedT
  refine cond_d (fun k => ?_) (fun k0 => cond_d (fun k => ?_) (fun k1 => cond_d (fun k => ?_) (fun k2 => cond_d (fun k => ?_) (fun k3 => ?_))))
  · refine cond_b (fun a => ?_) (fun a => ?_)
    · refine cond_b (fun b => ?_) (fun b => ?_)
      · exact hb fun hp => by
          rcases hp with ⟨k', f, v⟩ | ⟨k', f⟩ | ⟨k', f⟩ | ⟨k', f, v⟩ <;> try omega
          rw [spanB_iff.2 v] at b; cases b
      · have b' : spanB p.wlo p.whi 0 100000 = true := by simpa using b
        have f := spanB_iff.1 a
        have v := spanB_iff.1 b'
        have hp : PtOk p := .join k f v
        refine cond_d (fun c => cond_d (fun d => ?_) (fun d => ?_)) (fun c => cond_d (fun d => ?_) (fun d => ?_))
        all_goals
          refine ⟨⟨by omega, by omega, by omega, by omega, by omega⟩, ⟨by omega, by omega, by omega, by omega, by omega⟩, cond_r (by omega) (cond_r (by omega) (ht _ hp ?_))⟩
          rw [step0 k]
          unfold joinW
          simp only [c, d, if_true, if_false]
    · exact hb fun hp => by
        rcases hp with ⟨k', f, v⟩ | ⟨k', f⟩ | ⟨k', f⟩ | ⟨k', f, v⟩ <;> try omega
        rw [spanB_iff.2 f] at a; cases a
  · refine cond_b (fun b => ?_) (fun b => ?_)
    · exact hb fun hp => by
        rcases hp with ⟨k', f, v⟩ | ⟨k', f⟩ | ⟨k', f⟩ | ⟨k', f, v⟩ <;> try omega
        rw [spanB_iff.2 f] at b; cases b
    · have b' : spanB p.flo p.fhi 0 1073741824 = true := by simpa using b
      have f := spanB_iff.1 b'
      exact cond_r (by omega) (cond_r (by omega) (ht _ (.draw k f) (step1 k)))
  · refine cond_b (fun b => ?_) (fun b => ?_)
    · exact hb fun hp => by
        rcases hp with ⟨k', f, v⟩ | ⟨k', f⟩ | ⟨k', f⟩ | ⟨k', f, v⟩ <;> try omega
        rw [spanB_iff.2 f] at b; cases b
    · have b' : spanB p.hlo p.hhi 0 1099511627776 = true := by simpa using b
      have f := spanB_iff.1 b'
      have q1 := quo_in (a := p.hlo) (b := w.fhi) f.1 (by omega)
      have q2 := quo_in (a := p.hhi + w.flo - 1) (b := w.flo) (by omega) (by omega)
      exact cond_d (fun h => by omega) (fun _ => cond_r (by omega) (cond_r (by omega) ⟨⟨by omega, by omega⟩, cond_r (by omega) (ht _ (.add k f) (step2 k))⟩))
  · refine cond_b (fun a => ?_) (fun a => ?_)
    · refine cond_b (fun b => ?_) (fun b => ?_)
      · exact hb fun hp => by
          rcases hp with ⟨k', f, v⟩ | ⟨k', f⟩ | ⟨k', f⟩ | ⟨k', f, v⟩ <;> try omega
          rw [spanB_iff.2 v] at b; cases b
      · have b' : spanB p.slo p.shi 0 10000 = true := by simpa using b
        have f := spanB_iff.1 a
        have v := spanB_iff.1 b'
        have hp : PtOk p := .air k f v
        refine cond_d (fun c => cond_d (fun d => ?_) (fun d => ?_)) (fun c => cond_d (fun d => ?_) (fun d => ?_))
        all_goals
          refine cond_r (by omega) ⟨⟨by omega, by omega, by omega, by omega, by omega⟩, cond_r (by omega) ⟨⟨by omega, by omega, by omega, by omega, by omega⟩, ht _ hp ?_⟩⟩
          rw [step3 k]
          unfold airW
          simp only [c, d, if_true, if_false]
    · exact hb fun hp => by
        rcases hp with ⟨k', f, v⟩ | ⟨k', f⟩ | ⟨k', f⟩ | ⟨k', f, v⟩ <;> try omega
        rw [spanB_iff.2 f] at a; cases a
  · exact hb fun hp => by
      rcases hp with ⟨k', f, v⟩ | ⟨k', f⟩ | ⟨k', f⟩ | ⟨k', f, v⟩ <;> omega
end
end Go.Sx.Str

/- stream: the loop over points ends as the plain functions say. -/

namespace Go.Sx.Str
open Go Go.Sx Go.Proofs
set_option maxRecDepth 100000

theorem tSt_ok : ∀ p ∈ tSt, SpOk Try.prog p.1 p.2 := by
  intro p hp
  simp only [tSt, List.mem_cons, List.not_mem_nil, or_false] at hp
  rcases hp with rfl | rfl | rfl
  · exact spanT_ok isSpan_v
  · exact meanT_ok
  · exact upT_ok fun a b h => up_v h

theorem runE_pos {l : Int → Pt} {m : Nat} {i : Int} {w : Wt} (h : ptB (l i) = true) (he : errW (stepW w (l i)) = 0) : runE l (m + 1) i w = runE l m (i + 1) (stepW w (l i)) := by
  simp only [runE, h, he, Bool.not_true, cond_false, decide_true, cond_true]
theorem runE_bad {l : Int → Pt} {m : Nat} {i : Int} {w : Wt} (h : ptB (l i) = false) : runE l (m + 1) i w = 1 := by
  simp only [runE, h, Bool.not_false, cond_true]
theorem runE_err {l : Int → Pt} {m : Nat} {i : Int} {w : Wt} (h : ptB (l i) = true) (he : errW (stepW w (l i)) ≠ 0) : runE l (m + 1) i w = errW (stepW w (l i)) := by
  simp only [runE, h, Bool.not_true, cond_false, decide_eq_false he]
theorem runI_pos {l : Int → Pt} {m : Nat} {i : Int} {w : Wt} (h : ptB (l i) = true) (he : errW (stepW w (l i)) = 0) : runI l (m + 1) i w = runI l m (i + 1) (stepW w (l i)) := by
  simp only [runI, h, he, Bool.true_and, decide_true, cond_true]
theorem runI_bad {l : Int → Pt} {m : Nat} {i : Int} {w : Wt} (h : ptB (l i) = false) : runI l (m + 1) i w = i := by
  simp only [runI, h, Bool.false_and, cond_false]
theorem runI_err {l : Int → Pt} {m : Nat} {i : Int} {w : Wt} (h : ptB (l i) = true) (he : errW (stepW w (l i)) ≠ 0) : runI l (m + 1) i w = i := by
  simp only [runI, h, Bool.true_and, decide_eq_false he, cond_false]

/-- A state: the round, the number of points, the water, and what is known behind them. -/
structure SF where
  i : Int
  k : Int
  w : Wt
  xs : List Wt

structure IF (n : Nat) (s : SF) : Prop where
  i : (0 ≤ s.i ∧ s.i ≤ n ∧ s.k = s.i) ∨ (s.i = n + 1 ∧ s.k = n)
  x : (s.xs.length : Int) = s.k
  w : WOk s.w
  n : n ≤ 100000

def OF (n cap : Nat) (l : Int → Pt) (f : Wt) (s : SF) (e : VEx) (vs : List VV) (bs : List VB) : Prop :=
  (e = .exit 0 ∧ runE l (n - s.k).toNat s.k s.w = 0 ∧ ∃ w', vs = VF n (n + 1) n ∧ bs = BFl n cap l f w' (s.xs ++ runL l (n - s.k).toNat s.k s.w)) ∨
  (e = .ret ∧ runE l (n - s.k).toNat s.k s.w ≠ 0 ∧ ∃ i w' xs', vs = VF n i (runI l (n - s.k).toNat s.k s.w) ∧ bs = BFr n cap l f w' xs' (runI l (n - s.k).toNat s.k s.w) (runE l (n - s.k).toNat s.k s.w))

section
variable {n cap : Nat} {l : Int → Pt} {f : Wt}

theorem errW_ne {w : Wt} : errW w ≠ 0 → errW w = 10 ∨ errW w = 12 := by
  unfold errW
  cases decide (w.flo < 1)
  · cases (decide (w.fhi > 1073741824) || decide (w.whi > 100000))
    · exact fun h => (h rfl).elim
    · exact fun _ => .inr rfl
  · exact fun _ => .inl rfl

/-- One round. -/
theorem w0_round (i k : Int) (w : Wt) (xs : List Wt) (hi : IF n ⟨i, k, w, xs⟩) : codeE Try.prog (callN Try.prog (tabS tSt) noL 10 20) (fun _ => none) true 10 44 0 (loopB 0 (bodyOf Try.prog 51)) (dsF.zip (VF n i k)) ⟨16, nsF.zip (BFl n cap l f w xs)⟩ (obs 16 dsF nsF (RoundQ (fun s => VF n s.i s.k) (fun s => BFl n cap l f s.w s.xs) (IF n) (fun s => (n + 1 - s.i).toNat) (OF n cap l f) ⟨i, k, w, xs⟩)) := by
  obtain ⟨h1, h2, h3, h4⟩ := hi
  dsimp only at h1 h2 h3
  rw [w0_ev]
  by_cases hlt : i < (n : Int) + 1
  · refine cond_dk hlt ?_
    refine cond_d (fun h => by omega) (fun _ => ?_)
    by_cases hn : i < (n : Int)
    · refine cond_dk hn (cond_dk ⟨by omega, hn⟩ ⟨⟨rfl, by omega, by omega⟩, ?_⟩)
      have hk : k = i := by omega
      subst hk
      have hm : ((n : Int) - k).toNat = ((n : Int) - (k + 1)).toNat + 1 := by omega
      have key := deedT_of (w := w) (p := l (0 + k))
        (R := fun e w' => RoundQ (fun s => VF n s.i s.k) (fun s => BFl n cap l f s.w s.xs) (IF n) (fun s => (n + 1 - s.i).toNat) (OF n cap l f) ⟨k, k, w, xs⟩ .ret (VF n k k) (BFr n cap l f w' xs k e))
        (N := fun w' => bif xs.length.beq xs.length then
            bif roomB (xs.length + 1) (32) then
            bif inK IntKind.i64 (k + (1 : Int)) then
            bif inK IntKind.i64 (k + (1 : Int)) then
            RoundQ (fun s => VF n s.i s.k) (fun s => BFl n cap l f s.w s.xs) (IF n) (fun s => (n + 1 - s.i).toNat) (OF n cap l f) ⟨k, k, w, xs⟩ .normal (VF n (k + 1) (k + 1)) [ptsA n l, .cells [.slice (.el 0 [] 0 0) n cap] 26, .cells [I (-1)] 3, .cells [.nilp] 78, .cells [.sl 15 (xs.length + 1)] 29, .cells [I 0] 3, .cells [I 0] 30, .cells (wtL w') 89, .cells [.ptr (.own 12 0)] 87, rec35 f, .vec (xs.length + 1) (catG xs.length (fun j => wtL (xs.getD j w0)) fun j => List.take 4 (List.drop (j * 4) (wtL w'))) 4 25]
            else False else False else False else False)
        h3
        (fun hb => .inr ⟨rfl, by
            rw [Int.zero_add] at hb
            show runE l ((n : Int) - k).toNat k w ≠ 0
            rw [hm, runE_bad hb]; decide, k, w, xs, by
            rw [Int.zero_add] at hb
            show VF n k k = VF n k (runI l ((n : Int) - k).toNat k w)
            rw [hm, runI_bad hb], by
            rw [Int.zero_add] at hb
            show BFr n cap l f w xs k 1 = BFr n cap l f w xs (runI l ((n : Int) - k).toNat k w) (runE l ((n : Int) - k).toNat k w)
            rw [hm, runI_bad hb, runE_bad hb]⟩)
        (fun hb he => .inr ⟨rfl, by
            rw [Int.zero_add] at hb he
            show runE l ((n : Int) - k).toNat k w ≠ 0
            rw [hm, runE_err hb he]; exact he, k, stepW w (l k), xs, by
            rw [Int.zero_add] at hb he
            show VF n k k = VF n k (runI l ((n : Int) - k).toNat k w)
            rw [hm, runI_err hb he], by
            rw [Int.zero_add] at hb he ⊢
            show BFr n cap l f (stepW w (l k)) xs k (errW (stepW w (l k))) = BFr n cap l f (stepW w (l k)) xs (runI l ((n : Int) - k).toNat k w) (runE l ((n : Int) - k).toNat k w)
            rw [hm, runI_err hb he, runE_err hb he]⟩)
        (fun hb he => by
            rw [Int.zero_add] at hb he ⊢
            have hx : xs.length.beq xs.length = true := Nat.beq_refl _
            refine cond_t hx (cond_t (room32 (by omega)) (cond_r (by omega) (cond_r (by omega) ?_)))
            refine ⟨⟨k + 1, k + 1, stepW w (l k), xs ++ [stepW w (l k)]⟩, ⟨by dsimp only; omega, by simp; omega, step_ok h3 (ptB_iff.1 hb) he, h4⟩, by dsimp only; omega, rfl, ?_, ?_⟩
            · refine ⟨VB.fit_refl _, VB.fit_refl _, VB.fit_refl _, VB.fit_refl _, ?_, VB.fit_refl _, VB.fit_refl _, VB.fit_refl _, VB.fit_refl _, VB.fit_refl _, fit_snocW xs _, trivial⟩
              dsimp only
              rw [List.length_append]
              exact VB.fit_refl _
            · intro e vs bs
              simp only [OF]
              rw [hm, runE_pos hb he, runI_pos hb he, runL]
              rw [List.append_assoc]
              exact id)
      exact key
    · refine cond_d (fun h => absurd h hn) (fun _ => cond_r (by omega) ?_)
      have hk : i = (n : Int) := by omega
      subst hk
      have hk' : k = (n : Int) := by omega
      subst hk'
      refine ⟨⟨n + 1, n, w, xs⟩, ⟨.inr ⟨rfl, rfl⟩, h2, h3, h4⟩, by dsimp only; omega, rfl, fitBs_refl _, fun e vs bs => id⟩
  · refine cond_d (fun h => absurd h hlt) (fun _ => ?_)
    have hi : i = (n : Int) + 1 := by omega
    have hk : k = (n : Int) := by omega
    subst hi hk
    have hz : ((n : Int) - n).toNat = 0 := by omega
    refine .inl ⟨rfl, ?_, w, rfl, ?_⟩
    · show runE l ((n : Int) - n).toNat n w = 0
      rw [hz]; rfl
    · show BFl n cap l f w xs = BFl n cap l f w (xs ++ runL l ((n : Int) - n).toNat n w)
      rw [hz]; simp [runL]

/-- The loop, from a list of no elements. -/
def LFls (n cap : Nat) (l : Int → Pt) (f : Wt) : LT := fun lock t h K =>
  FitP lock h t ⟨16, nsF.zip (BFl n cap l f f [])⟩ (dsF.zip (VF n 0 0)) ∧ (WOk f ∧ n ≤ 100000) ∧
    (runE l n 0 f = 0 → ∀ w', K .normal (dsF.zip (VF n (n + 1) n)) ⟨16, nsF.zip (BFl n cap l f w' (runL l n 0 f))⟩) ∧
    (runE l n 0 f ≠ 0 → ∀ i w' xs', K .ret (dsF.zip (VF n i (runI l n 0 f))) ⟨16, nsF.zip (BFr n cap l f w' xs' (runI l n 0 f) (runE l n 0 f))⟩)

theorem LFls_ok : LSound Try.prog true (.block 0 (.loop (loopB 0 (bodyOf Try.prog 51)))) 44 (LFls n cap l f) := by
  refine loop_row hmix (tab_good hmix tSt_ok 20) (un := 10) (ds := dsF) (ns := nsF) (nx := 16) (fun s : SF => VF n s.i s.k) (fun s => BFl n cap l f s.w s.xs) (IF n) (fun s => (n + 1 - s.i).toNat) (OF n cap l f) noL_ok (fun s hi => w0_round s.i s.k s.w s.xs hi) ?_
  rintro lock t h K ⟨hf, ⟨hw, hn⟩, h1, h2⟩
  have hz : ((n : Int) - 0).toNat = n := by omega
  refine ⟨⟨0, 0, f, []⟩, hf, ⟨.inl ⟨Int.le_refl 0, Int.natCast_nonneg n, rfl⟩, rfl, hw, hn⟩, ?_⟩
  rintro e vs bs (⟨rfl, he, w', rfl, rfl⟩ | ⟨rfl, he, i, w', xs', rfl, rfl⟩)
  · dsimp only at he
    rw [hz] at he
    have := h1 he w'
    dsimp only
    rw [hz]
    exact this
  · dsimp only at he
    rw [hz] at he
    have := h2 he i w' xs'
    dsimp only
    rw [hz]
    exact this

def nsFn : List Nat := [0, 5, 6, 7, 9, 10, 11, 12, 13, 14]
noncomputable def BFn (n cap : Nat) (l : Int → Pt) (f : Wt) : List VB := [ptsA n l, .cells [.slice (.el 0 [] 0 0) n cap] 26, .cells [I (-1)] 3, .cells [.nilp] 78, .cells [.nils] 29, .cells [I 0] 3, .cells [I 0] 30, .cells (wtL f) 89, .cells [.ptr (.own 12 0)] 87, rec35 f]

/-- The loop, from nil. -/
def LFl (n cap : Nat) (l : Int → Pt) (f : Wt) : LT := fun lock t h K =>
  FitP lock h t ⟨15, nsFn.zip (BFn n cap l f)⟩ (dsF.zip (VF n 0 0)) ∧ (WOk f ∧ n ≤ 100000) ∧
    (runE l n 0 f = 0 → ∀ w', K .normal (dsF.zip (VF n (n + 1) n)) ⟨16, nsF.zip (BFl n cap l f w' (runL l n 0 f))⟩) ∧
    (runE l n 0 f ≠ 0 → ∀ i w' xs', K .ret (dsF.zip (VF n i (runI l n 0 f))) ⟨16, nsF.zip (BFr n cap l f w' xs' (runI l n 0 f) (runE l n 0 f))⟩)

theorem LFl_ok : LSound Try.prog true (.block 0 (.loop (loopB 0 (bodyOf Try.prog 51)))) 44 (LFl n cap l f) :=
  ghost_cells_row (m := 9) (nx := 15) (cs := [.nils]) (cs' := [.sl 15 0]) (ty := 29) (bs := nsFn.zip (BFn n cap l f)) (t0 := dsF.zip (VF n 0 0))
    (fun j => wtL (([] : List Wt).getD j w0)) 4 25 LFls_ok rfl (fun R xs hv hx => by
      obtain ⟨a0, _, k0, k1, rfl⟩ := hx
      exact ⟨_, _, nil_ghost hv k0, k1, rfl⟩) (by
      rintro lock t h K ⟨hf, hc, h1, h2⟩
      exact ⟨hf, ⟨⟨rfl, rfl, VB.fit_refl _, VB.fit_refl _, VB.fit_refl _, VB.fit_refl _, VB.fit_refl _, VB.fit_refl _, VB.fit_refl _, VB.fit_refl _, VB.fit_refl _, VB.fit_refl _, VB.fit_refl _, trivial⟩, rfl, rfl, rfl, rfl, rfl, rfl, rfl, trivial⟩, hc, h1, h2⟩)
end
end Go.Sx.Str

/- stream: Flow, evaluated. -/

namespace Go.Sx.Str
open Go Go.Sx Go.Proofs
set_option maxRecDepth 100000

def flR (Q : VRes → List VB → Prop) : VRes → VH → Prop := fun r h => Q r [h.at 0, h.at 15]
theorem f13_ev (n cap : Nat) (l : Int → Pt) (f : Wt) (Q : VRes → List VB → Prop) : callN Try.prog noSpec (atF 51 [(0, LFl n cap l f)]) 10 20 0 (.fn 13) [.agg (wtL f), .slice (.el 0 [] 0 0) n cap] ⟨1, [(0, ptsA n l)]⟩ (flR Q) =
  (bif decide (f.flo ≥ (1 : Int)) then
 bif decide (f.flo ≤ f.fhi) then
 bif decide (f.fhi ≤ (1073741824 : Int)) then
 bif decide (f.wlo ≥ (0 : Int)) then
 bif decide (f.wlo ≤ f.whi) then
 bif !decide (f.whi ≤ (100000 : Int)) then
 Q (VRes.ret (VV.tup [VV.nils, I 0, I 1])) [ptsA n l, VB.free]
 else bif decide ((↑n : Int) > (64 : Int)) then
 Q (VRes.ret (VV.tup [VV.nils, I 0, I 3])) [ptsA n l, VB.free]
 else bif inK IntKind.i64 ((↑n : Int) + (1 : Int)) then
 FitP 0 (VH.mk (15) (nsFn.zip (BFn n cap l f))) (dsF.zip (VF n (0 : Int) (0 : Int))) (VH.mk (15) (nsFn.zip (BFn n cap l f))) (dsF.zip (VF n (0 : Int) (0 : Int))) ∧ (WOk f ∧ n ≤ 100000) ∧ (runE l n (0 : Int) f = (0 : Int) → ∀ (w' : Wt), Q (VRes.ret (VV.tup [VV.sl 15 (runL l n (0 : Int) f).length, I (↑(runL l n (0 : Int) f).length : Int), I 0])) [ptsA n l, VB.vec (runL l n (0 : Int) f).length (fun j => wtL ((runL l n (0 : Int) f).getD j w0)) 4 (25 : TypeId)]) ∧ (runE l n (0 : Int) f ≠ (0 : Int) → ∀ (i : Int) (w' : Wt) (xs' : List Wt), Q (VRes.ret (VV.tup [VV.nils, I (runI l n (0 : Int) f), I (runE l n (0 : Int) f)])) [ptsA n l, VB.vec xs'.length (fun j => wtL (xs'.getD j w0)) 4 (25 : TypeId)])
 else False
 else Q (VRes.ret (VV.tup [VV.nils, I 0, I 1])) [ptsA n l, VB.free]
 else Q (VRes.ret (VV.tup [VV.nils, I 0, I 1])) [ptsA n l, VB.free]
 else Q (VRes.ret (VV.tup [VV.nils, I 0, I 1])) [ptsA n l, VB.free]
 else Q (VRes.ret (VV.tup [VV.nils, I 0, I 1])) [ptsA n l, VB.free]
 else Q (VRes.ret (VV.tup [VV.nils, I 0, I 1])) [ptsA n l, VB.free]) := by kernel_rfl


end Go.Sx.Str
