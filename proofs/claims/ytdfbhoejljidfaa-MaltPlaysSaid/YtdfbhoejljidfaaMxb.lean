/- malt: a round of the document's Play, evaluated. -/
import Derived.Test.YtdfbhoejljidfaaMxa

namespace Go.Sx.Malt
open Go Go.Sx Go.Proofs
set_option maxRecDepth 100000

def vat6 (v : Vat) : List VV := [I v.dl, I v.dh, I v.wl, I v.wh, I v.pl, I v.ph]
def vat8 (v : Vat) : List VV := [I v.tl, I v.th, I v.gl, I v.gh, I v.rl, I v.rh, I v.sl, I v.sh]



/-- The document's step as a row. -/
def bhT (v : Vat) : Spec1 := fun _ args h K => match args with
  | [.agg [.int .i64 dl, .int .i64 dh, .int .i64 wl, .int .i64 wh, .int .i64 pl, .int .i64 ph], .agg [.int .i64 k, .int .i64 a, .int .i64 b]] =>
    (vat0 dl dh wl wh pl ph = vat0 v.dl v.dh v.wl v.wh v.pl v.ph ∧ VOk v ∧ stB k a b = true) ∧ K (.ret (.tup [.agg (vat6 (stepV v k a b)), .agg (vat8 (stepV v k a b))])) h
  | _ => False

def rBs (a : VB) (v : Vat) : List (Nat × VB) := [(0, a), (1, .cells (vat6 v) 25), (2, z6), (3, z8), (4, .cells (vat8 v) 29)]
def rT (off : Int) (n c : Nat) (i : Int) : Slots := [(9, I i), (1, .slice (.el 0 [] off 0) n c), (2, .ptr (.own 1 0)), (4, .ptr (.own 2 0)), (5, .ptr (.own 3 0)), (8, .ptr (.own 4 0))]

/-- What is seen behind a round. -/
def rK (Qn : List VB → List VV → Prop) (Qr : List VB → List VV → Prop) (Qx : Nat → List VB → List VV → Prop) : CK := fun e t h => match e with
  | .normal => Qn [h.at 0, h.at 1, h.at 2, h.at 3, h.at 4] [look t 9, look t 1, look t 2, look t 4, look t 5, look t 8]
  | .ret => Qr [h.at 0, h.at 2, h.at 3] [look t 4, look t 5, look t 6, look t 7]
  | .exit id => Qx id [h.at 0, h.at 1, h.at 2, h.at 3, h.at 4] [look t 9, look t 1, look t 2, look t 4, look t 5, look t 8]
  | _ => False

theorem rround_ev (B : Int → Int → Int → Bool) (ok : List Int → Int → Prop) (kf af bf : Int → Int) (off : Int) (n c : Nat) (i : Int) (v : Vat) (Qn : List VB → List VV → Prop) (Qr : List VB → List VV → Prop) (Qx : Nat → List VB → List VV → Prop) : codeE Try.prog (callN Try.prog (tabS [(20, stepT B), (37, bhT v)]) noL 10 20) (fun _ => none) true 10 164 0 (loopB 0 (bodyOf Try.prog 13)) (rT off n c i) ⟨5, rBs (.arr 3 ok (gS kf af bf)) v⟩ (rK Qn Qr Qx) =
  (bif decide (i < (↑n : Int)) then
 bif decide (0 ≤ i ∧ i < (↑n : Int)) then
 bif decide (0 ≤ off) then
 ok [] (off + i) ∧ bif !B (kf (off + i)) (af (off + i)) (bf (off + i)) then
 Qr [VB.arr 3 ok (gS kf af bf), VB.cells [I 0, I 0, I 0, I 0, I 0, I 0] 25, VB.cells [I 0, I 0, I 0, I 0, I 0, I 0, I 0, I 0] 29] [VV.ptr (VA.own 2 0), VV.ptr (VA.own 3 0), I i, I 1]
 else bif decide (0 ≤ i ∧ i < (↑n : Int)) then
 bif decide (0 ≤ off) then
 ok [] (off + i) ∧ (vat0 v.dl v.dh v.wl v.wh v.pl v.ph = vat0 v.dl v.dh v.wl v.wh v.pl v.ph ∧ VOk v ∧ stB (kf (off + i)) (af (off + i)) (bf (off + i)) = true) ∧ bif decide ((stepV v (kf (off + i)) (af (off + i)) (bf (off + i))).dl > (stepV v (kf (off + i)) (af (off + i)) (bf (off + i))).dh) then
 Qr [VB.arr 3 ok (gS kf af bf), VB.cells [I 0, I 0, I 0, I 0, I 0, I 0] 25, VB.cells [I 0, I 0, I 0, I 0, I 0, I 0, I 0, I 0] 29] [VV.ptr (VA.own 2 0), VV.ptr (VA.own 3 0), I i, I 4]
 else bif decide ((stepV v (kf (off + i)) (af (off + i)) (bf (off + i))).wl > (stepV v (kf (off + i)) (af (off + i)) (bf (off + i))).wh) then
 Qr [VB.arr 3 ok (gS kf af bf), VB.cells [I 0, I 0, I 0, I 0, I 0, I 0] 25, VB.cells [I 0, I 0, I 0, I 0, I 0, I 0, I 0, I 0] 29] [VV.ptr (VA.own 2 0), VV.ptr (VA.own 3 0), I i, I 4]
 else bif decide ((stepV v (kf (off + i)) (af (off + i)) (bf (off + i))).pl > (stepV v (kf (off + i)) (af (off + i)) (bf (off + i))).ph) then
 Qr [VB.arr 3 ok (gS kf af bf), VB.cells [I 0, I 0, I 0, I 0, I 0, I 0] 25, VB.cells [I 0, I 0, I 0, I 0, I 0, I 0, I 0, I 0] 29] [VV.ptr (VA.own 2 0), VV.ptr (VA.own 3 0), I i, I 4]
 else bif decide ((stepV v (kf (off + i)) (af (off + i)) (bf (off + i))).tl > (stepV v (kf (off + i)) (af (off + i)) (bf (off + i))).th) then
 Qr [VB.arr 3 ok (gS kf af bf), VB.cells [I 0, I 0, I 0, I 0, I 0, I 0] 25, VB.cells [I 0, I 0, I 0, I 0, I 0, I 0, I 0, I 0] 29] [VV.ptr (VA.own 2 0), VV.ptr (VA.own 3 0), I i, I 4]
 else bif decide ((stepV v (kf (off + i)) (af (off + i)) (bf (off + i))).gl > (stepV v (kf (off + i)) (af (off + i)) (bf (off + i))).gh) then
 Qr [VB.arr 3 ok (gS kf af bf), VB.cells [I 0, I 0, I 0, I 0, I 0, I 0] 25, VB.cells [I 0, I 0, I 0, I 0, I 0, I 0, I 0, I 0] 29] [VV.ptr (VA.own 2 0), VV.ptr (VA.own 3 0), I i, I 4]
 else bif decide ((stepV v (kf (off + i)) (af (off + i)) (bf (off + i))).rl > (stepV v (kf (off + i)) (af (off + i)) (bf (off + i))).rh) then
 Qr [VB.arr 3 ok (gS kf af bf), VB.cells [I 0, I 0, I 0, I 0, I 0, I 0] 25, VB.cells [I 0, I 0, I 0, I 0, I 0, I 0, I 0, I 0] 29] [VV.ptr (VA.own 2 0), VV.ptr (VA.own 3 0), I i, I 4]
 else bif decide ((stepV v (kf (off + i)) (af (off + i)) (bf (off + i))).sl > (stepV v (kf (off + i)) (af (off + i)) (bf (off + i))).sh) then
 Qr [VB.arr 3 ok (gS kf af bf), VB.cells [I 0, I 0, I 0, I 0, I 0, I 0] 25, VB.cells [I 0, I 0, I 0, I 0, I 0, I 0, I 0, I 0] 29] [VV.ptr (VA.own 2 0), VV.ptr (VA.own 3 0), I i, I 4]
 else bif inK IntKind.i64 (v.tl + (stepV v (kf (off + i)) (af (off + i)) (bf (off + i))).tl) then
 bif inK IntKind.i64 (v.th + (stepV v (kf (off + i)) (af (off + i)) (bf (off + i))).th) then
 bif inK IntKind.i64 (v.gl + (stepV v (kf (off + i)) (af (off + i)) (bf (off + i))).gl) then
 bif inK IntKind.i64 (v.gh + (stepV v (kf (off + i)) (af (off + i)) (bf (off + i))).gh) then
 bif inK IntKind.i64 (v.rl + (stepV v (kf (off + i)) (af (off + i)) (bf (off + i))).rl) then
 bif inK IntKind.i64 (v.rh + (stepV v (kf (off + i)) (af (off + i)) (bf (off + i))).rh) then
 bif inK IntKind.i64 (v.sl + (stepV v (kf (off + i)) (af (off + i)) (bf (off + i))).sl) then
 bif inK IntKind.i64 (v.sh + (stepV v (kf (off + i)) (af (off + i)) (bf (off + i))).sh) then
 bif decide (max (max (max (max (max (max (stepV v (kf (off + i)) (af (off + i)) (bf (off + i))).dh (stepV v (kf (off + i)) (af (off + i)) (bf (off + i))).wh) (stepV v (kf (off + i)) (af (off + i)) (bf (off + i))).ph) (v.th + (stepV v (kf (off + i)) (af (off + i)) (bf (off + i))).th)) (v.gh + (stepV v (kf (off + i)) (af (off + i)) (bf (off + i))).gh)) (v.rh + (stepV v (kf (off + i)) (af (off + i)) (bf (off + i))).rh)) (v.sh + (stepV v (kf (off + i)) (af (off + i)) (bf (off + i))).sh) > 1099511627776) then
 Qr [VB.arr 3 ok (gS kf af bf), VB.cells [I 0, I 0, I 0, I 0, I 0, I 0] 25, VB.cells [I 0, I 0, I 0, I 0, I 0, I 0, I 0, I 0] 29] [VV.ptr (VA.own 2 0), VV.ptr (VA.own 3 0), I i, I 12]
 else bif inK IntKind.i64 (i + 1) then
 Qn [VB.arr 3 ok (gS kf af bf), VB.cells [I (stepV v (kf (off + i)) (af (off + i)) (bf (off + i))).dl, I (stepV v (kf (off + i)) (af (off + i)) (bf (off + i))).dh, I (stepV v (kf (off + i)) (af (off + i)) (bf (off + i))).wl, I (stepV v (kf (off + i)) (af (off + i)) (bf (off + i))).wh, I (stepV v (kf (off + i)) (af (off + i)) (bf (off + i))).pl, I (stepV v (kf (off + i)) (af (off + i)) (bf (off + i))).ph] 25, VB.cells [I 0, I 0, I 0, I 0, I 0, I 0] 25, VB.cells [I 0, I 0, I 0, I 0, I 0, I 0, I 0, I 0] 29, VB.cells [I (v.tl + (stepV v (kf (off + i)) (af (off + i)) (bf (off + i))).tl), I (v.th + (stepV v (kf (off + i)) (af (off + i)) (bf (off + i))).th), I (v.gl + (stepV v (kf (off + i)) (af (off + i)) (bf (off + i))).gl), I (v.gh + (stepV v (kf (off + i)) (af (off + i)) (bf (off + i))).gh), I (v.rl + (stepV v (kf (off + i)) (af (off + i)) (bf (off + i))).rl), I (v.rh + (stepV v (kf (off + i)) (af (off + i)) (bf (off + i))).rh), I (v.sl + (stepV v (kf (off + i)) (af (off + i)) (bf (off + i))).sl), I (v.sh + (stepV v (kf (off + i)) (af (off + i)) (bf (off + i))).sh)] 29] [I (i + 1), VV.slice (VA.el 0 [] off 0) n c, VV.ptr (VA.own 1 0), VV.ptr (VA.own 2 0), VV.ptr (VA.own 3 0), VV.ptr (VA.own 4 0)]
 else False
 else False
 else False
 else False
 else False
 else False
 else False
 else False
 else False
 else False
 else False
 else False
 else False
 else Qx 0 [VB.arr 3 ok (gS kf af bf), VB.cells [I v.dl, I v.dh, I v.wl, I v.wh, I v.pl, I v.ph] 25, VB.cells [I 0, I 0, I 0, I 0, I 0, I 0] 25, VB.cells [I 0, I 0, I 0, I 0, I 0, I 0, I 0, I 0] 29, VB.cells [I v.tl, I v.th, I v.gl, I v.gh, I v.rl, I v.rh, I v.sl, I v.sh] 29] [I i, VV.slice (VA.el 0 [] off 0) n c, VV.ptr (VA.own 1 0), VV.ptr (VA.own 2 0), VV.ptr (VA.own 3 0), VV.ptr (VA.own 4 0)]) := by kernel_rfl


end Go.Sx.Malt
