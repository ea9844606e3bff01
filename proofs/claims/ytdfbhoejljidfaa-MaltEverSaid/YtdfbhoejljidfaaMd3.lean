/- malt: a round of air in Dust, evaluated. -/
import Derived.Test.YtdfbhoejljidfaaMd2

namespace Go.Sx.Malt
open Go Go.Sx Go.Proofs
set_option maxRecDepth 100000

def rfOf : Code → Option (Code × Code)
  | .rangeFunc _ _ ac bd => some (ac, bd)
  | .seq a b => match rfOf a with
    | some r => some r
    | none => rfOf b
  | .block _ b => rfOf b
  | _ => none

def rfAs (P : Program) (f : FuncId) : Code := match rfOf (bodyOf P f) with
  | some (ac, _) => ac
  | none => .skip

def rfBd (P : Program) (f : FuncId) : Code := match rfOf (bodyOf P f) with
  | some (_, bd) => bd
  | none => .skip

noncomputable def dAs : Code := rfAs Try.prog 23
noncomputable def dBd : Code := rfBd Try.prog 23

/-- The slots of Dust where it begins to range. -/
def dTT (a b c d m : Int) : Slots := [(18, .func 59 [] [.ptr (.own 5 0)]), (17, .agg [I a, I b, I c, I d]), (6, .ptr (.own 4 0)), (13, .bool false), (13, .bool false), (16, .bool false), (15, .bool true), (14, I m), (9, .bool false), (9, .bool false), (12, .bool false), (11, .bool true),
  (10, .agg [I a, I b, I c, I d]), (5, .ptr (.own 3 0)), (4, .ptr (.own 2 0)), (3, .ptr (.own 1 0)), (2, .ptr (.own 0 0)), (0, .agg [I a, I b, I c, I d]), (1, I m)]

noncomputable def dRec (a b c d m : Int) (st : Bool) (pd : Option VEx) : VB := .loop st pd (dTT a b c d m) 28 [19, 20] dAs dBd

noncomputable def dHB (a b c d m prev : Int) (st : Bool) (pd : Option VEx) (z2 z3 : Int) : List (Nat × VB) := [(6, dRec a b c d m st pd), (5, .cells [I a, I b, I c, I d] 50), (4, .cells [I prev] 3), (3, .cells [I z3] 30), (2, .cells [I z2] 3), (1, .cells [I m] 3)]

def aT (i x : Int) : Slots := [(0, .yld 6), (1, .ptr (.own 5 0)), (3, I i), (4, I x)]

/-- What is seen behind a round. -/
def aK (Qn : VB → List VB → List VV → Prop) (Qo : VB → List VB → Prop) (Qx : Nat → VB → List VB → Prop) : CK := fun e t h => match e with
  | .normal => Qn (h.at 6) [h.at 5, h.at 4, h.at 3, h.at 2, h.at 1] [look t 0, look t 1, look t 3, look t 4]
  | .ret => Qo (h.at 6) [h.at 5, h.at 4, h.at 3, h.at 2, h.at 1]
  | .exit id => Qx id (h.at 6) [h.at 5, h.at 4, h.at 3, h.at 2, h.at 1]
  | _ => False

theorem around_ev (a b c d m prev i x : Int) (Qn : VB → List VB → List VV → Prop) (Qo : VB → List VB → Prop) (Qx : Nat → VB → List VB → Prop) : codeE Try.prog (callN Try.prog noSpec noL 10 20) (fun _ => none) true 10 36 0 (loopB 0 (bodyOf Try.prog 59)) (aT i x) ⟨7, dHB a b c d m prev true none 0 0⟩ (aK Qn Qo Qx) =
  (bif decide (i > m) then
 Qx 0 (VB.loop false (some (VEx.exit 1)) (dTT a b c d m) 28 [19, 20] dAs dBd) [VB.cells [I a, I b, I c, I d] (50 : TypeId), VB.cells [I prev] (3 : TypeId), VB.cells [I 0] (30 : TypeId), VB.cells [I 0] (3 : TypeId), VB.cells [I m] (3 : TypeId)]
 else bif decide (x > (1073741824 : Int)) then
 Qx 0 (VB.loop false (some VEx.ret) (dTT a b c d m) 28 [19, 20] dAs dBd) [VB.cells [I a, I b, I c, I d] (50 : TypeId), VB.cells [I x] (3 : TypeId), VB.cells [I 0] (30 : TypeId), VB.cells [I 1073741824] (3 : TypeId), VB.cells [I m] (3 : TypeId)]
 else bif inK IntKind.i64 ((10000 : Int) - c) then
 bif inK IntKind.i64 (((10000 : Int) - c) * x) then
 bif inK IntKind.i64 (((10000 : Int) - c) * x + (10000 : Int)) then
 bif inK IntKind.i64 (((10000 : Int) - c) * x + (10000 : Int) - (1 : Int)) then
 bif inK IntKind.i64 (quoZ (((10000 : Int) - c) * x + (10000 : Int) - (1 : Int)) (10000 : Int)) then
 bif inK IntKind.i64 (quoZ (((10000 : Int) - c) * x + (10000 : Int) - (1 : Int)) (10000 : Int) + b) then
 bif decide (quoZ (((10000 : Int) - c) * x + (10000 : Int) - (1 : Int)) (10000 : Int) + b = x) then
 bif inK IntKind.i64 (i + (1 : Int)) then
 bif decide (i + (1 : Int) > m) then
 Qo (VB.loop false (some (VEx.exit 1)) (dTT a b c d m) 28 [19, 20] dAs dBd) [VB.cells [I a, I b, I c, I d] (50 : TypeId), VB.cells [I x] (3 : TypeId), VB.cells [I 0] (30 : TypeId), VB.cells [I 0] (3 : TypeId), VB.cells [I m] (3 : TypeId)]
 else bif decide (quoZ (((10000 : Int) - c) * x + (10000 : Int) - (1 : Int)) (10000 : Int) + b > (1073741824 : Int)) then
 Qo (VB.loop false (some VEx.ret) (dTT a b c d m) 28 [19, 20] dAs dBd) [VB.cells [I a, I b, I c, I d] (50 : TypeId), VB.cells [I (quoZ (((10000 : Int) - c) * x + (10000 : Int) - (1 : Int)) (10000 : Int) + b)] (3 : TypeId), VB.cells [I 0] (30 : TypeId), VB.cells [I 1073741824] (3 : TypeId), VB.cells [I m] (3 : TypeId)]
 else Qo (VB.loop true none (dTT a b c d m) 28 [19, 20] dAs dBd) [VB.cells [I a, I b, I c, I d] (50 : TypeId), VB.cells [I (quoZ (((10000 : Int) - c) * x + (10000 : Int) - (1 : Int)) (10000 : Int) + b)] (3 : TypeId), VB.cells [I 0] (30 : TypeId), VB.cells [I 0] (3 : TypeId), VB.cells [I m] (3 : TypeId)]
 else False
 else bif decide (quoZ (((10000 : Int) - c) * x + (10000 : Int) - (1 : Int)) (10000 : Int) + b > (2147483648 : Int)) then
 bif inK IntKind.i64 (i + (1 : Int)) then
 bif decide (i + (1 : Int) > m) then
 Qo (VB.loop false (some (VEx.exit 1)) (dTT a b c d m) 28 [19, 20] dAs dBd) [VB.cells [I a, I b, I c, I d] (50 : TypeId), VB.cells [I x] (3 : TypeId), VB.cells [I 0] (30 : TypeId), VB.cells [I 0] (3 : TypeId), VB.cells [I m] (3 : TypeId)]
 else bif decide (quoZ (((10000 : Int) - c) * x + (10000 : Int) - (1 : Int)) (10000 : Int) + b > (1073741824 : Int)) then
 Qo (VB.loop false (some VEx.ret) (dTT a b c d m) 28 [19, 20] dAs dBd) [VB.cells [I a, I b, I c, I d] (50 : TypeId), VB.cells [I (quoZ (((10000 : Int) - c) * x + (10000 : Int) - (1 : Int)) (10000 : Int) + b)] (3 : TypeId), VB.cells [I 0] (30 : TypeId), VB.cells [I 1073741824] (3 : TypeId), VB.cells [I m] (3 : TypeId)]
 else Qo (VB.loop true none (dTT a b c d m) 28 [19, 20] dAs dBd) [VB.cells [I a, I b, I c, I d] (50 : TypeId), VB.cells [I (quoZ (((10000 : Int) - c) * x + (10000 : Int) - (1 : Int)) (10000 : Int) + b)] (3 : TypeId), VB.cells [I 0] (30 : TypeId), VB.cells [I 0] (3 : TypeId), VB.cells [I m] (3 : TypeId)]
 else False
 else bif inK IntKind.i64 (i + (1 : Int)) then
 Qn (VB.loop true none (dTT a b c d m) 28 [19, 20] dAs dBd) [VB.cells [I a, I b, I c, I d] (50 : TypeId), VB.cells [I x] (3 : TypeId), VB.cells [I 0] (30 : TypeId), VB.cells [I 0] (3 : TypeId), VB.cells [I m] (3 : TypeId)] [VV.yld 6, VV.ptr (VA.own 5 0), I (i + (1 : Int)), I (quoZ (((10000 : Int) - c) * x + (10000 : Int) - (1 : Int)) (10000 : Int) + b)]
 else False
 else False
 else False
 else False
 else False
 else False
 else False) := by kernel_rfl


end Go.Sx.Malt
