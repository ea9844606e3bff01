/- malt: the document's dust, evaluated. -/
import Derived.Test.YtdfbhoejljidfaaMxh
import Derived.Test.YtdfbhoejljidfaaMl7

namespace Go.Sx.Malt
open Go Go.Sx Go.Proofs
set_option maxRecDepth 100000

def millT (f : FuncId) (B : Int → Int → Int → Int → Bool) : FuncId × Spec1 := (f, fun _ args h K => match args with
  | [.agg [.int .i64 a, .int .i64 b, .int .i64 c, .int .i64 d]] => K (.ret (.bool (B a b c d))) h
  | _ => False)

/-- What is seen behind a round of the document's Dust. -/
def rdK (Qn : List VB → List VV → Prop) (Qr : List VV → Prop) (Qx : Nat → List VB → List VV → Prop) : CK := fun e t h => match e with
  | .normal => Qn [h.at 0] [look t 6, look t 7, look t 1, look t 2]
  | .ret => Qr [look t 4, look t 5]
  | .exit id => Qx id [h.at 0] [look t 6, look t 7, look t 1, look t 2]
  | _ => False

def rdT (m c i : Int) : Slots := [(6, I c), (7, I i), (1, I m), (2, .ptr (.own 0 0))]
def rdH (a b c d : Int) : VH := ⟨1, [(0, .cells [I a, I b, I c, I d] 50)]⟩

theorem rdround_ev (a b c d m x i : Int) (Qn : List VB → List VV → Prop) (Qr : List VV → Prop) (Qx : Nat → List VB → List VV → Prop) : codeE Try.prog (callN Try.prog noSpec noL 10 20) (fun _ => none) true 10 27 0 (loopB 0 (bodyOf Try.prog 24)) (rdT m x i) (rdH a b c d) (rdK Qn Qr Qx) =
  (bif decide (i < m) then
 bif inK IntKind.i64 ((10000 : Int) - c) then
 bif inK IntKind.i64 (((10000 : Int) - c) * x) then
 bif inK IntKind.i64 (((10000 : Int) - c) * x + (10000 : Int)) then
 bif inK IntKind.i64 (((10000 : Int) - c) * x + (10000 : Int) - (1 : Int)) then
 bif inK IntKind.i64 (quoZ (((10000 : Int) - c) * x + (10000 : Int) - (1 : Int)) (10000 : Int)) then
 bif inK IntKind.i64 (quoZ (((10000 : Int) - c) * x + (10000 : Int) - (1 : Int)) (10000 : Int) + b) then
 bif decide (quoZ (((10000 : Int) - c) * x + (10000 : Int) - (1 : Int)) (10000 : Int) + b > (1073741824 : Int)) then
 Qr [I 1073741824, I 0]
 else bif inK IntKind.i64 (i + (1 : Int)) then
 Qn [VB.cells [I a, I b, I c, I d] (50 : TypeId)] [I (quoZ (((10000 : Int) - c) * x + (10000 : Int) - (1 : Int)) (10000 : Int) + b), I (i + (1 : Int)), I m, VV.ptr (VA.own 0 0)]
 else False
 else False
 else False
 else False
 else False
 else False
 else False
 else Qx 0 [VB.cells [I a, I b, I c, I d] (50 : TypeId)] [I x, I i, I m, VV.ptr (VA.own 0 0)]) := by kernel_rfl

theorem rhround_ev (a b c d x i : Int) (Qn : List VB → List VV → Prop) (Qr : List VV → Prop) : codeE Try.prog (callN Try.prog noSpec noL 10 20) (fun _ => none) true 10 26 0 (loopB 0 (bodyOf Try.prog 26)) [(4, I x), (5, I i), (1, .ptr (.own 0 0))] (rdH a b c d) (fun e t h => match e with
  | .normal => Qn [h.at 0] [look t 4, look t 5, look t 1]
  | .ret => Qr [look t 2, look t 3]
  | _ => False) =
  (bif decide (x > d) then
 Qr [I i, I 0]
 else bif inK IntKind.i64 ((10000 : Int) - c) then
 bif inK IntKind.i64 (((10000 : Int) - c) * x) then
 bif inK IntKind.i64 (((10000 : Int) - c) * x + (10000 : Int)) then
 bif inK IntKind.i64 (((10000 : Int) - c) * x + (10000 : Int) - (1 : Int)) then
 bif inK IntKind.i64 (quoZ (((10000 : Int) - c) * x + (10000 : Int) - (1 : Int)) (10000 : Int)) then
 bif inK IntKind.i64 (quoZ (((10000 : Int) - c) * x + (10000 : Int) - (1 : Int)) (10000 : Int) + b) then
 bif decide (quoZ (((10000 : Int) - c) * x + (10000 : Int) - (1 : Int)) (10000 : Int) + b ≤ x) then
 Qr [I 0, I 4]
 else bif inK IntKind.i64 (i + (1 : Int)) then
 Qn [VB.cells [I a, I b, I c, I d] (50 : TypeId)] [I (quoZ (((10000 : Int) - c) * x + (10000 : Int) - (1 : Int)) (10000 : Int) + b), I (i + (1 : Int)), VV.ptr (VA.own 0 0)]
 else False
 else False
 else False
 else False
 else False
 else False
 else False) := by kernel_rfl


end Go.Sx.Malt
