/- malt: a round of Play, evaluated. -/
import Derived.Test.YtdfbhoejljidfaaMx5

namespace Go.Sx.Malt
open Go Go.Sx Go.Proofs
set_option maxRecDepth 100000

def arrS (ok : List Int → Int → Prop) (kf af bf : Int → Int) : VB := .arr 3 ok (gS kf af bf)

def plBp (a : VB) : List (Nat × VB) := [(0, a), (2, z6), (3, z8), (4, z1)]

/-- The step as a row. -/
def doT (ok : List Int → Int → Prop) (kf af bf : Int → Int) (v : Vat) : Spec1 := fun lock args h K => match args with
  | [.ptr (.own 5 0), .agg [.int .i64 k, .int .i64 a, .int .i64 b]] =>
    AtH lock h ⟨6, plBs (.arr 3 ok (gS kf af bf)) (vatV v)⟩ ∧ (bif decide (doE v k a b = 0) then K (.ret (.tup [])) ⟨6, plBs (.arr 3 ok (gS kf af bf)) (vatV (doV v k a b))⟩ else K (.panic (mis (doE v k a b))) ⟨6, plBp (.arr 3 ok (gS kf af bf))⟩)
  | _ => False

def plT (off : Int) (n c : Nat) (j ix : Int) : Slots := [(35, I j), (34, I n), (8, .ptr (.own 5 0)), (7, .ptr (.own 4 0)), (6, I ix), (5, .ptr (.own 3 0)), (4, .ptr (.own 2 0)), (1, .slice (.el 0 [] off 0) n c)]

/-- What is seen behind a round. -/
def plK (Qn : List VB → List VV → Prop) (Qp : VV → List VB → List VV → Prop) (Qx : Nat → List VB → List VV → Prop) : CK := fun e t h => match e with
  | .normal => Qn [h.at 0, h.at 2, h.at 3, h.at 4, h.at 5] [look t 35, look t 34, look t 8, look t 7, look t 6, look t 5, look t 4, look t 1]
  | .panic v => Qp v [h.at 0, h.at 2, h.at 3, h.at 4] [look t 7, look t 6, look t 5, look t 4]
  | .exit id => Qx id [h.at 0, h.at 2, h.at 3, h.at 4, h.at 5] [look t 35, look t 34, look t 8, look t 7, look t 6, look t 5, look t 4, look t 1]
  | _ => False

theorem round_ev (ok : List Int → Int → Prop) (kf af bf : Int → Int) (off : Int) (n c : Nat) (j ix : Int) (v : Vat) (Qn : List VB → List VV → Prop) (Qp : VV → List VB → List VV → Prop) (Qx : Nat → List VB → List VV → Prop) : codeE Try.prog (callN Try.prog (tabS [(36, doT ok kf af bf v)]) noL 10 20) (fun _ => none) true 10 90 0 (loopB 1 (bodyOf Try.prog 12)) (plT off n c j ix) ⟨6, plBs (.arr 3 ok (gS kf af bf)) (vatV v)⟩ (plK Qn Qp Qx) =
  (bif decide (j < ↑n) then
 bif decide (0 ≤ j ∧ j < ↑n) then
 bif decide (0 ≤ off) then
 ok [] (off + j) ∧ AtH 0 { nx := 6, bs := plBs (VB.arr 3 ok (gS kf af bf)) (vatV v) } { nx := 6, bs := plBs (VB.arr 3 ok (gS kf af bf)) (vatV v) } ∧ bif decide (doE v (kf (off + j)) (af (off + j)) (bf (off + j)) = 0) then
 bif inK IntKind.i64 (j + 1) then
 Qn [VB.arr 3 ok (gS kf af bf), VB.cells [I 0, I 0, I 0, I 0, I 0, I 0] 25, VB.cells [I 0, I 0, I 0, I 0, I 0, I 0, I 0, I 0] 29, VB.cells [I 0] 30, VB.cells [I (doV v (kf (off + j)) (af (off + j)) (bf (off + j))).dl, I (doV v (kf (off + j)) (af (off + j)) (bf (off + j))).dh, I (doV v (kf (off + j)) (af (off + j)) (bf (off + j))).wl, I (doV v (kf (off + j)) (af (off + j)) (bf (off + j))).wh, I (doV v (kf (off + j)) (af (off + j)) (bf (off + j))).pl, I (doV v (kf (off + j)) (af (off + j)) (bf (off + j))).ph, I (doV v (kf (off + j)) (af (off + j)) (bf (off + j))).tl, I (doV v (kf (off + j)) (af (off + j)) (bf (off + j))).th, I (doV v (kf (off + j)) (af (off + j)) (bf (off + j))).gl, I (doV v (kf (off + j)) (af (off + j)) (bf (off + j))).gh, I (doV v (kf (off + j)) (af (off + j)) (bf (off + j))).rl, I (doV v (kf (off + j)) (af (off + j)) (bf (off + j))).rh, I (doV v (kf (off + j)) (af (off + j)) (bf (off + j))).sl, I (doV v (kf (off + j)) (af (off + j)) (bf (off + j))).sh] 79] [I (j + 1), I ↑n, VV.ptr (VA.own 5 0), VV.ptr (VA.own 4 0), I j, VV.ptr (VA.own 3 0), VV.ptr (VA.own 2 0), VV.slice (VA.el 0 [] off 0) n c]
 else False
 else Qp (VV.iface 73 (VV.agg [I (doE v (kf (off + j)) (af (off + j)) (bf (off + j)))])) [VB.arr 3 ok (gS kf af bf), VB.cells [I 0, I 0, I 0, I 0, I 0, I 0] 25, VB.cells [I 0, I 0, I 0, I 0, I 0, I 0, I 0, I 0] 29, VB.cells [I 0] 30] [VV.ptr (VA.own 4 0), I j, VV.ptr (VA.own 3 0), VV.ptr (VA.own 2 0)]
 else False
 else False
 else Qx 1 [VB.arr 3 ok (gS kf af bf), VB.cells [I 0, I 0, I 0, I 0, I 0, I 0] 25, VB.cells [I 0, I 0, I 0, I 0, I 0, I 0, I 0, I 0] 29, VB.cells [I 0] 30, VB.cells [I v.dl, I v.dh, I v.wl, I v.wh, I v.pl, I v.ph, I v.tl, I v.th, I v.gl, I v.gh, I v.rl, I v.rh, I v.sl, I v.sh] 79] [I j, I ↑n, VV.ptr (VA.own 5 0), VV.ptr (VA.own 4 0), I ix, VV.ptr (VA.own 3 0), VV.ptr (VA.own 2 0), VV.slice (VA.el 0 [] off 0) n c]) := by kernel_rfl


end Go.Sx.Malt
