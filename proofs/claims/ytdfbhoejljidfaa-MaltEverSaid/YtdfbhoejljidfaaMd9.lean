/- malt: a round of air in Harm, evaluated. -/
import Derived.Test.YtdfbhoejljidfaaMd8

namespace Go.Sx.Malt
open Go Go.Sx Go.Proofs
set_option maxRecDepth 100000

noncomputable def hAs : Code := rfAs Try.prog 25
noncomputable def hBd : Code := rfBd Try.prog 25

/-- The slots of Harm where it begins to range; those that are not read are open. -/
def hTT (U : Nat → VV) (a b c d : Int) : Slots := [(35, .func 59 [] [.ptr (.own 4 0)]), (34, .agg [I a, I b, I c, I d]), (4, .ptr (.own 3 0)), (24, U 3), (24, U 4), (23, U 5), (18, U 6), (22, U 7), (18, U 8), (21, U 9), (18, U 10), (20, U 11), (18, U 12), (19, U 13), (18, U 14), (18, U 15), (17, U 16), (16, U 17), (13, U 18), (15, U 19), (13, U 20), (14, U 21), (13, U 22), (13, U 23), (12, U 24),
  (11, I c), (10, .ptr (.own 0 2)), (9, .bool false), (9, .bool false), (8, .bool true), (7, .agg [I a, I b, I c, I d]), (3, .ptr (.own 2 0)), (2, .ptr (.own 1 0)), (1, .ptr (.own 0 0)), (0, .agg [I a, I b, I c, I d])]

/-- The three ways to the range. -/
def hW (κ : Nat) (a b c d : Int) : List VV :=
  let o : VV := .tup []
  match κ with
  | 0 => [o, o, o, .bool false, .bool (decide (a ≤ d)), .bool (decide (a ≤ d)), .bool true, I d, .bool true, .ptr (.own 0 3), .bool true, I a, .bool true, .ptr (.own 0 0), .bool true, .bool (decide (b > 0)), .bool (decide (b > 0)), .bool (decide (b > 0)), .bool true, I b, .bool true, .ptr (.own 0 1), .bool true, .bool (decide (c = 0)), .bool (decide (c = 0))]
  | 1 => [o, o, o, .bool false, .bool false, o, .bool false, o, .bool false, o, .bool false, o, .bool false, o, .bool false, .bool (decide (b > 0)), .bool (decide (b > 0)), .bool (decide (b > 0)), .bool true, I b, .bool true, .ptr (.own 0 1), .bool true, .bool (decide (c = 0)), .bool (decide (c = 0))]
  | _ => [o, o, o, .bool false, .bool false, o, .bool false, o, .bool false, o, .bool false, o, .bool false, o, .bool false, .bool false, .bool false, o, .bool false, o, .bool false, o, .bool false, .bool (decide (c = 0)), .bool (decide (c = 0))]

def hU (κ : Nat) (a b c d : Int) : Nat → VV := fun k => match (hW κ a b c d)[k]? with
  | some v => v
  | none => .any

noncomputable def hRec (U : Nat → VV) (a b c d : Int) (st : Bool) (pd : Option VEx) : VB := .loop st pd (hTT U a b c d) 47 [36, 37] hAs hBd

noncomputable def hHB (U : Nat → VV) (a b c d last : Int) (st : Bool) (pd : Option VEx) (z1 z2 : Int) : List (Nat × VB) := [(5, hRec U a b c d st pd), (4, .cells [I a, I b, I c, I d] 50), (3, .cells [I last] 3), (2, .cells [I z2] 30), (1, .cells [I z1] 3), (0, .cells [I a, I b, I c, I d] 50)]

def hT (i x : Int) : Slots := [(0, .yld 5), (1, .ptr (.own 4 0)), (3, I i), (4, I x)]

/-- What is seen behind a round. -/
def hK (Qn : VB → List VB → List VV → Prop) (Qo : VB → List VB → Prop) (Qx : Nat → VB → List VB → Prop) : CK := fun e t h => match e with
  | .normal => Qn (h.at 5) [h.at 4, h.at 3, h.at 2, h.at 1, h.at 0] [look t 0, look t 1, look t 3, look t 4]
  | .ret => Qo (h.at 5) [h.at 2, h.at 1]
  | .exit id => Qx id (h.at 5) [h.at 2, h.at 1]
  | _ => False

/-- A round of air in Harm. -/
noncomputable def hTree (U : Nat → VV) (a b c d i x last : Int) (Qn : VB → List VB → List VV → Prop) (Qo : VB → List VB → Prop) (Qx : Nat → VB → List VB → Prop) : Prop :=
  bif decide (x > d) then
 Qx 0 (VB.loop false (some VEx.ret) (hTT U a b c d) 47 [36, 37] hAs hBd) [VB.cells [I 0] (30 : TypeId), VB.cells [I i] (3 : TypeId)]
 else bif decide (x ≤ last) then
 Qx 0 (VB.loop false (some (VEx.exit 0)) (hTT U a b c d) 47 [36, 37] hAs hBd) [VB.cells [I 0] (30 : TypeId), VB.cells [I 0] (3 : TypeId)]
 else bif inK IntKind.i64 ((10000 : Int) - c) then
 bif inK IntKind.i64 (((10000 : Int) - c) * x) then
 bif inK IntKind.i64 (((10000 : Int) - c) * x + (10000 : Int)) then
 bif inK IntKind.i64 (((10000 : Int) - c) * x + (10000 : Int) - (1 : Int)) then
 bif inK IntKind.i64 (quoZ (((10000 : Int) - c) * x + (10000 : Int) - (1 : Int)) (10000 : Int)) then
 bif inK IntKind.i64 (quoZ (((10000 : Int) - c) * x + (10000 : Int) - (1 : Int)) (10000 : Int) + b) then
 bif decide (quoZ (((10000 : Int) - c) * x + (10000 : Int) - (1 : Int)) (10000 : Int) + b = x) then
 bif inK IntKind.i64 (i + (1 : Int)) then
 bif decide (quoZ (((10000 : Int) - c) * x + (10000 : Int) - (1 : Int)) (10000 : Int) + b > d) then
 Qo (VB.loop false (some VEx.ret) (hTT U a b c d) 47 [36, 37] hAs hBd) [VB.cells [I 0] (30 : TypeId), VB.cells [I (i + (1 : Int))] (3 : TypeId)]
 else bif decide (quoZ (((10000 : Int) - c) * x + (10000 : Int) - (1 : Int)) (10000 : Int) + b ≤ x) then
 Qo (VB.loop false (some (VEx.exit 0)) (hTT U a b c d) 47 [36, 37] hAs hBd) [VB.cells [I 0] (30 : TypeId), VB.cells [I 0] (3 : TypeId)]
 else Qo (VB.loop true none (hTT U a b c d) 47 [36, 37] hAs hBd) [VB.cells [I 0] (30 : TypeId), VB.cells [I 0] (3 : TypeId)]
 else False
 else bif decide (quoZ (((10000 : Int) - c) * x + (10000 : Int) - (1 : Int)) (10000 : Int) + b > (2147483648 : Int)) then
 bif inK IntKind.i64 (i + (1 : Int)) then
 bif decide (quoZ (((10000 : Int) - c) * x + (10000 : Int) - (1 : Int)) (10000 : Int) + b > d) then
 Qo (VB.loop false (some VEx.ret) (hTT U a b c d) 47 [36, 37] hAs hBd) [VB.cells [I 0] (30 : TypeId), VB.cells [I (i + (1 : Int))] (3 : TypeId)]
 else bif decide (quoZ (((10000 : Int) - c) * x + (10000 : Int) - (1 : Int)) (10000 : Int) + b ≤ x) then
 Qo (VB.loop false (some (VEx.exit 0)) (hTT U a b c d) 47 [36, 37] hAs hBd) [VB.cells [I 0] (30 : TypeId), VB.cells [I 0] (3 : TypeId)]
 else Qo (VB.loop true none (hTT U a b c d) 47 [36, 37] hAs hBd) [VB.cells [I 0] (30 : TypeId), VB.cells [I 0] (3 : TypeId)]
 else False
 else bif inK IntKind.i64 (i + (1 : Int)) then
 Qn (VB.loop true none (hTT U a b c d) 47 [36, 37] hAs hBd) [VB.cells [I a, I b, I c, I d] (50 : TypeId), VB.cells [I x] (3 : TypeId), VB.cells [I 0] (30 : TypeId), VB.cells [I 0] (3 : TypeId), VB.cells [I a, I b, I c, I d] (50 : TypeId)] [VV.yld 5, VV.ptr (VA.own 4 0), I (i + (1 : Int)), I (quoZ (((10000 : Int) - c) * x + (10000 : Int) - (1 : Int)) (10000 : Int) + b)]
 else False
 else False
 else False
 else False
 else False
 else False
 else False

theorem hround_ev0 (a b c d last i x : Int) (Qn : VB → List VB → List VV → Prop) (Qo : VB → List VB → Prop) (Qx : Nat → VB → List VB → Prop) : codeE Try.prog (callN Try.prog noSpec noL 10 20) (fun _ => none) true 10 36 0 (loopB 0 (bodyOf Try.prog 59)) (hT i x) ⟨6, hHB (hU 0 a b c d) a b c d last true none 0 0⟩ (hK Qn Qo Qx) =
  hTree (hU 0 a b c d) a b c d i x last Qn Qo Qx := by kernel_rfl

theorem hround_ev1 (a b c d last i x : Int) (Qn : VB → List VB → List VV → Prop) (Qo : VB → List VB → Prop) (Qx : Nat → VB → List VB → Prop) : codeE Try.prog (callN Try.prog noSpec noL 10 20) (fun _ => none) true 10 36 0 (loopB 0 (bodyOf Try.prog 59)) (hT i x) ⟨6, hHB (hU 1 a b c d) a b c d last true none 0 0⟩ (hK Qn Qo Qx) =
  hTree (hU 1 a b c d) a b c d i x last Qn Qo Qx := by kernel_rfl

theorem hround_ev2 (a b c d last i x : Int) (Qn : VB → List VB → List VV → Prop) (Qo : VB → List VB → Prop) (Qx : Nat → VB → List VB → Prop) : codeE Try.prog (callN Try.prog noSpec noL 10 20) (fun _ => none) true 10 36 0 (loopB 0 (bodyOf Try.prog 59)) (hT i x) ⟨6, hHB (hU 2 a b c d) a b c d last true none 0 0⟩ (hK Qn Qo Qx) =
  hTree (hU 2 a b c d) a b c d i x last Qn Qo Qx := by kernel_rfl

end Go.Sx.Malt
