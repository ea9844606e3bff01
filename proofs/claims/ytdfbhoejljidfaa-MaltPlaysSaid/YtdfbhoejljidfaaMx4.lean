/- malt: a step of Play, evaluated. -/
import Derived.Test.YtdfbhoejljidfaaMx3
import Derived.Test.YtdfbhoejljidfaaSxH

namespace Go.Sx.Malt
open Go Go.Sx Go.Proofs
set_option maxRecDepth 100000

def gS (kf af bf : Int → Int) : List Int → Int → List VV := fun _ i => [I (kf i), I (af i), I (bf i)]

def stepT (B : Int → Int → Int → Bool) : Spec1 := fun _ args h K => match args with
  | [.agg [.int .i64 k, .int .i64 a, .int .i64 b]] => K (.ret (.bool (B k a b))) h
  | _ => False

abbrev mis (n : Int) : VV := .iface 73 (.agg [I n])
def z6 : VB := .cells [I 0, I 0, I 0, I 0, I 0, I 0] 25
def z8 : VB := .cells [I 0, I 0, I 0, I 0, I 0, I 0, I 0, I 0] 29
def z1 : VB := .cells [I 0] 30
def vat79 (dl dh wl wh pl ph tl th gl gh rl rh sl sh : Int) : VB := .cells [I dl, I dh, I wl, I wh, I pl, I ph, I tl, I th, I gl, I gh, I rl, I rh, I sl, I sh] 79

def plBs (a : VB) (v : VB) : List (Nat × VB) := [(0, a), (2, z6), (3, z8), (4, z1), (5, v)]

def bs4 (ok : List Int → Int → Prop) (kf af bf : Int → Int) : List VB := [.arr 3 ok (gS kf af bf), z6, z8, z1]

/-- What is seen behind a step. -/
def doK (Qn : List VB → Prop) (Qp : VV → List VB → Prop) : VRes → VH → Prop := fun r h => match r with
  | .ret (.tup []) => Qn [h.at 0, h.at 2, h.at 3, h.at 4, h.at 5]
  | .panic v => Qp v [h.at 0, h.at 2, h.at 3, h.at 4]
  | _ => False

theorem do_ev (B : Int → Int → Int → Bool) (ok : List Int → Int → Prop) (kf af bf : Int → Int) (k a b : Int) (dl dh wl wh pl ph tl th gl gh rl rh sl sh : Int) (Qn : List VB → Prop) (Qp : VV → List VB → Prop) : callN Try.prog (tabS [(57, stepT B)]) noL 10 20 0 (.fn 36) [.ptr (.own 5 0), .agg [I k, I a, I b]] ⟨6, plBs (.arr 3 ok (gS kf af bf)) (vat79 dl dh wl wh pl ph tl th gl gh rl rh sl sh)⟩ (doK Qn Qp) =
  (bif !B k a b then
 Qp (mis 1) (bs4 ok kf af bf)
 else bif decide (k = ↑0) then
 bif inK IntKind.i64 (wl + a) then
 bif inK IntKind.i64 (wh + b) then
 bif inK IntKind.i64 (tl + a) then
 bif inK IntKind.i64 (th + b) then
 bif !decide (dl ≤ dh) then
 Qp (mis 4) (bs4 ok kf af bf)
 else bif !decide (wl + a ≤ wh + b) then
 Qp (mis 4) (bs4 ok kf af bf)
 else bif !decide (pl ≤ ph) then
 Qp (mis 4) (bs4 ok kf af bf)
 else bif !decide (dh ≤ 1099511627776) then
 Qp (mis 12) (bs4 ok kf af bf)
 else bif !decide (wh + b ≤ 1099511627776) then
 Qp (mis 12) (bs4 ok kf af bf)
 else bif !decide (ph ≤ 1099511627776) then
 Qp (mis 12) (bs4 ok kf af bf)
 else bif !decide (th + b ≤ 1099511627776) then
 Qp (mis 12) (bs4 ok kf af bf)
 else bif !decide (gh ≤ 1099511627776) then
 Qp (mis 12) (bs4 ok kf af bf)
 else bif !decide (rh ≤ 1099511627776) then
 Qp (mis 12) (bs4 ok kf af bf)
 else bif !decide (sh ≤ 1099511627776) then
 Qp (mis 12) (bs4 ok kf af bf)
 else Qn [VB.arr 3 ok (gS kf af bf), z6, z8, z1, VB.cells [I dl, I dh, I (wl + a), I (wh + b), I pl, I ph, I (tl + a), I (th + b), I gl, I gh, I rl, I rh, I sl, I sh] 79]
 else False
 else False
 else False
 else False
 else bif decide (k = ↑(0 + 1)) then
 bif inK IntKind.i64 (dl * a) then
 bif inK IntKind.i64 (dl * a + 10000) then
 bif inK IntKind.i64 (dl * a + 10000 - 1) then
 bif inK IntKind.i64 (quoZ (dl * a + 10000 - 1) 10000) then
 bif inK IntKind.i64 (dh * b) then
 bif inK IntKind.i64 (quoZ (dh * b) 10000) then
 bif !decide (quoZ (dl * a + 10000 - 1) 10000 ≤ quoZ (dh * b) 10000) then
 Qp (mis 4) (bs4 ok kf af bf)
 else bif inK IntKind.i64 (gl + quoZ (dl * a + 10000 - 1) 10000) then
 bif inK IntKind.i64 (gh + quoZ (dh * b) 10000) then
 bif inK IntKind.i64 (10000 - b) then
 bif inK IntKind.i64 (10000 - a) then
 bif inK IntKind.i64 (dl * (10000 - b)) then
 bif inK IntKind.i64 (dl * (10000 - b) + 10000) then
 bif inK IntKind.i64 (dl * (10000 - b) + 10000 - 1) then
 bif inK IntKind.i64 (quoZ (dl * (10000 - b) + 10000 - 1) 10000) then
 bif inK IntKind.i64 (dh * (10000 - a)) then
 bif inK IntKind.i64 (quoZ (dh * (10000 - a)) 10000) then
 bif !decide (quoZ (dl * (10000 - b) + 10000 - 1) 10000 ≤ quoZ (dh * (10000 - a)) 10000) then
 Qp (mis 4) (bs4 ok kf af bf)
 else bif !decide (wl ≤ wh) then
 Qp (mis 4) (bs4 ok kf af bf)
 else bif !decide (pl ≤ ph) then
 Qp (mis 4) (bs4 ok kf af bf)
 else bif !decide (quoZ (dh * (10000 - a)) 10000 ≤ 1099511627776) then
 Qp (mis 12) (bs4 ok kf af bf)
 else bif !decide (wh ≤ 1099511627776) then
 Qp (mis 12) (bs4 ok kf af bf)
 else bif !decide (ph ≤ 1099511627776) then
 Qp (mis 12) (bs4 ok kf af bf)
 else bif !decide (th ≤ 1099511627776) then
 Qp (mis 12) (bs4 ok kf af bf)
 else bif !decide (gh + quoZ (dh * b) 10000 ≤ 1099511627776) then
 Qp (mis 12) (bs4 ok kf af bf)
 else bif !decide (rh ≤ 1099511627776) then
 Qp (mis 12) (bs4 ok kf af bf)
 else bif !decide (sh ≤ 1099511627776) then
 Qp (mis 12) (bs4 ok kf af bf)
 else Qn [VB.arr 3 ok (gS kf af bf), z6, z8, z1, VB.cells [I (quoZ (dl * (10000 - b) + 10000 - 1) 10000), I (quoZ (dh * (10000 - a)) 10000), I wl, I wh, I pl, I ph, I tl, I th, I (gl + quoZ (dl * a + 10000 - 1) 10000), I (gh + quoZ (dh * b) 10000), I rl, I rh, I sl, I sh] 79]
 else False
 else False
 else False
 else False
 else False
 else False
 else False
 else False
 else False
 else False
 else False
 else False
 else False
 else False
 else False
 else False
 else bif decide (k = ↑(0 + 1 + 1)) then
 bif inK IntKind.i64 (dl * a) then
 bif inK IntKind.i64 (dl * a + 10000) then
 bif inK IntKind.i64 (dl * a + 10000 - 1) then
 bif inK IntKind.i64 (quoZ (dl * a + 10000 - 1) 10000) then
 bif inK IntKind.i64 (dh * b) then
 bif inK IntKind.i64 (quoZ (dh * b) 10000) then
 bif inK IntKind.i64 (wl - min (quoZ (dh * b) 10000) wh) then
 bif inK IntKind.i64 (wh - quoZ (dl * a + 10000 - 1) 10000) then
 bif inK IntKind.i64 (sl + max 0 (wl - min (quoZ (dh * b) 10000) wh)) then
 bif inK IntKind.i64 (sh + (wh - quoZ (dl * a + 10000 - 1) 10000)) then
 bif !decide (dl ≤ dh) then
 Qp (mis 4) (bs4 ok kf af bf)
 else bif !decide (quoZ (dl * a + 10000 - 1) 10000 ≤ min (quoZ (dh * b) 10000) wh) then
 Qp (mis 4) (bs4 ok kf af bf)
 else bif !decide (pl ≤ ph) then
 Qp (mis 4) (bs4 ok kf af bf)
 else bif !decide (dh ≤ 1099511627776) then
 Qp (mis 12) (bs4 ok kf af bf)
 else bif !decide (min (quoZ (dh * b) 10000) wh ≤ 1099511627776) then
 Qp (mis 12) (bs4 ok kf af bf)
 else bif !decide (ph ≤ 1099511627776) then
 Qp (mis 12) (bs4 ok kf af bf)
 else bif !decide (th ≤ 1099511627776) then
 Qp (mis 12) (bs4 ok kf af bf)
 else bif !decide (gh ≤ 1099511627776) then
 Qp (mis 12) (bs4 ok kf af bf)
 else bif !decide (rh ≤ 1099511627776) then
 Qp (mis 12) (bs4 ok kf af bf)
 else bif !decide (sh + (wh - quoZ (dl * a + 10000 - 1) 10000) ≤ 1099511627776) then
 Qp (mis 12) (bs4 ok kf af bf)
 else Qn [VB.arr 3 ok (gS kf af bf), z6, z8, z1, VB.cells [I dl, I dh, I (quoZ (dl * a + 10000 - 1) 10000), I (min (quoZ (dh * b) 10000) wh), I pl, I ph, I tl, I th, I gl, I gh, I rl, I rh, I (sl + max 0 (wl - min (quoZ (dh * b) 10000) wh)), I (sh + (wh - quoZ (dl * a + 10000 - 1) 10000))] 79]
 else False
 else False
 else False
 else False
 else False
 else False
 else False
 else False
 else False
 else False
 else bif decide (k = ↑(0 + 1 + 1 + 1)) then
 bif inK IntKind.i64 (dl * a) then
 bif inK IntKind.i64 (dl * a + 1000) then
 bif inK IntKind.i64 (dl * a + 1000 - 1) then
 bif inK IntKind.i64 (quoZ (dl * a + 1000 - 1) 1000) then
 bif inK IntKind.i64 (dh * b) then
 bif inK IntKind.i64 (quoZ (dh * b) 1000) then
 bif inK IntKind.i64 (pl + quoZ (dl * a + 1000 - 1) 1000) then
 bif inK IntKind.i64 (ph + quoZ (dh * b) 1000) then
 bif !decide (dl ≤ dh) then
 Qp (mis 4) (bs4 ok kf af bf)
 else bif !decide (wl ≤ wh) then
 Qp (mis 4) (bs4 ok kf af bf)
 else bif !decide (pl + quoZ (dl * a + 1000 - 1) 1000 ≤ ph + quoZ (dh * b) 1000) then
 Qp (mis 4) (bs4 ok kf af bf)
 else bif !decide (dh ≤ 1099511627776) then
 Qp (mis 12) (bs4 ok kf af bf)
 else bif !decide (wh ≤ 1099511627776) then
 Qp (mis 12) (bs4 ok kf af bf)
 else bif !decide (ph + quoZ (dh * b) 1000 ≤ 1099511627776) then
 Qp (mis 12) (bs4 ok kf af bf)
 else bif !decide (th ≤ 1099511627776) then
 Qp (mis 12) (bs4 ok kf af bf)
 else bif !decide (gh ≤ 1099511627776) then
 Qp (mis 12) (bs4 ok kf af bf)
 else bif !decide (rh ≤ 1099511627776) then
 Qp (mis 12) (bs4 ok kf af bf)
 else bif !decide (sh ≤ 1099511627776) then
 Qp (mis 12) (bs4 ok kf af bf)
 else Qn [VB.arr 3 ok (gS kf af bf), z6, z8, z1, VB.cells [I dl, I dh, I wl, I wh, I (pl + quoZ (dl * a + 1000 - 1) 1000), I (ph + quoZ (dh * b) 1000), I tl, I th, I gl, I gh, I rl, I rh, I sl, I sh] 79]
 else False
 else False
 else False
 else False
 else False
 else False
 else False
 else False
 else bif decide (k = ↑(0 + 1 + 1 + 1 + 1)) then
 bif inK IntKind.i64 (rl + a) then
 bif inK IntKind.i64 (rh + min b dh) then
 bif inK IntKind.i64 (dl - b) then
 bif inK IntKind.i64 (dh - a) then
 bif !decide (max 0 (dl - b) ≤ dh - a) then
 Qp (mis 4) (bs4 ok kf af bf)
 else bif !decide (wl ≤ wh) then
 Qp (mis 4) (bs4 ok kf af bf)
 else bif !decide (pl ≤ ph) then
 Qp (mis 4) (bs4 ok kf af bf)
 else bif !decide (dh - a ≤ 1099511627776) then
 Qp (mis 12) (bs4 ok kf af bf)
 else bif !decide (wh ≤ 1099511627776) then
 Qp (mis 12) (bs4 ok kf af bf)
 else bif !decide (ph ≤ 1099511627776) then
 Qp (mis 12) (bs4 ok kf af bf)
 else bif !decide (th ≤ 1099511627776) then
 Qp (mis 12) (bs4 ok kf af bf)
 else bif !decide (gh ≤ 1099511627776) then
 Qp (mis 12) (bs4 ok kf af bf)
 else bif !decide (rh + min b dh ≤ 1099511627776) then
 Qp (mis 12) (bs4 ok kf af bf)
 else bif !decide (sh ≤ 1099511627776) then
 Qp (mis 12) (bs4 ok kf af bf)
 else Qn [VB.arr 3 ok (gS kf af bf), z6, z8, z1, VB.cells [I (max 0 (dl - b)), I (dh - a), I wl, I wh, I pl, I ph, I tl, I th, I gl, I gh, I (rl + a), I (rh + min b dh), I sl, I sh] 79]
 else False
 else False
 else False
 else False
 else bif decide (k = ↑(0 + 1 + 1 + 1 + 1 + 1)) then
 bif inK IntKind.i64 (a - wh) then
 bif inK IntKind.i64 (b - wl) then
 bif inK IntKind.i64 (a - dh) then
 bif inK IntKind.i64 (b - dl) then
 bif !decide (max dl (a - wh) ≤ min dh (b - wl)) then
 Qp (mis 4) (bs4 ok kf af bf)
 else bif !decide (max wl (a - dh) ≤ min wh (b - dl)) then
 Qp (mis 4) (bs4 ok kf af bf)
 else bif !decide (pl ≤ ph) then
 Qp (mis 4) (bs4 ok kf af bf)
 else bif !decide (min dh (b - wl) ≤ 1099511627776) then
 Qp (mis 12) (bs4 ok kf af bf)
 else bif !decide (min wh (b - dl) ≤ 1099511627776) then
 Qp (mis 12) (bs4 ok kf af bf)
 else bif !decide (ph ≤ 1099511627776) then
 Qp (mis 12) (bs4 ok kf af bf)
 else bif !decide (th ≤ 1099511627776) then
 Qp (mis 12) (bs4 ok kf af bf)
 else bif !decide (gh ≤ 1099511627776) then
 Qp (mis 12) (bs4 ok kf af bf)
 else bif !decide (rh ≤ 1099511627776) then
 Qp (mis 12) (bs4 ok kf af bf)
 else bif !decide (sh ≤ 1099511627776) then
 Qp (mis 12) (bs4 ok kf af bf)
 else Qn [VB.arr 3 ok (gS kf af bf), z6, z8, z1, VB.cells [I (max dl (a - wh)), I (min dh (b - wl)), I (max wl (a - dh)), I (min wh (b - dl)), I pl, I ph, I tl, I th, I gl, I gh, I rl, I rh, I sl, I sh] 79]
 else False
 else False
 else False
 else False
 else False) := by kernel_rfl


end Go.Sx.Malt
