/- malt: a round of MaltConserves, evaluated. -/
import Derived.Test.YtdfbhoejljidfaaMxh
import Derived.Test.YtdfbhoejljidfaaMl3

namespace Go.Sx.Malt
open Go Go.Sx Go.Proofs
set_option maxRecDepth 100000

def gB (zf : Int → Int) : List Int → Int → List VV := fun _ i => [.int .u32 (zf i)]

def PkOk (lo hi z : Int) : Prop := (0 ≤ z ∧ z ≤ 4294967295) ∧ (-2305843009213693952 ≤ lo ∧ lo ≤ 2305843009213693952) ∧ (-2305843009213693952 ≤ hi ∧ hi ≤ 2305843009213693952)

/-- A number from one to another one, as a row. -/
def pickT : FuncId × Spec1 := (19, fun _ args h K => match args with
  | [.int .i64 lo, .int .i64 hi, .int .u32 z] => PkOk lo hi z ∧ (bif decide (lo ≤ hi) then K (.ret (.tup [I (pk lo hi z), .bool true])) h else K (.ret (.tup [I 0, .bool false])) h)
  | _ => False)

def cBs (a0 a1 e3 e4 : VB) : List (Nat × VB) := [(0, a0), (1, a1), (3, e3), (4, e4)]
def cT (n c nb cb : Nat) (first i : Int) (x : Tru) : Slots := [(1, .slice (.el 0 [] 0 0) n c), (2, .slice (.el 1 [] 0 0) nb cb), (7, .ptr (.own 3 0)), (8, .ptr (.own 4 0)), (11, I x.dry), (13, I x.water), (15, I x.phenol), (17, I first), (18, I x.taken), (19, I x.gas), (20, I x.roots), (21, I x.steam), (22, I i)]

/-- What is seen behind a round. -/
def cK (Qn : List VB → List VV → Prop) (Qr : VV → Prop) (Qx : Nat → List VB → List VV → Prop) : CK := fun e t h => match e with
  | .normal => Qn [h.at 0, h.at 1, h.at 3, h.at 4] [look t 1, look t 2, look t 7, look t 8, look t 11, look t 13, look t 15, look t 17, look t 18, look t 19, look t 20, look t 21, look t 22]
  | .ret => Qr (look t 6)
  | .exit id => Qx id [h.at 0, h.at 1, h.at 3, h.at 4] [look t 1, look t 2, look t 7, look t 8, look t 11, look t 13, look t 15, look t 17, look t 18, look t 19, look t 20, look t 21, look t 22]
  | _ => False

theorem pick_ev (lo hi z : Int) (Q : VRes → Prop) : callN Try.prog noSpec noL 10 20 0 (.fn 19) [I lo, I hi, .int .u32 z] ⟨0, []⟩ (fun r _ => Q r) =
  (bif decide (lo > hi) then
 Q (VRes.ret (VV.tup [I 0, VV.bool false]))
 else bif inK IntKind.i64 z then
 bif inK IntKind.i64 (hi - lo) then
 bif inK IntKind.i64 (hi - lo + 1) then
 bif decide (hi - lo + 1 = 0) then
 False
 else bif inK IntKind.i64 (lo + remZ z (hi - lo + 1)) then
 Q (VRes.ret (VV.tup [I (lo + remZ z (hi - lo + 1)), VV.bool true]))
 else False
 else False
 else False
 else False) := by kernel_rfl

theorem has_ev (lo hi z : Int) (Q : VRes → Prop) : callN Try.prog noSpec noL 10 20 0 (.fn 21) [.agg [I lo, I hi], I z] ⟨0, []⟩ (fun r _ => Q r) =
  (bif decide (lo ≤ z) then
 Q (VRes.ret (VV.bool (decide (z ≤ hi))))
 else Q (VRes.ret (VV.bool false))) := by kernel_rfl

theorem cround_ev (B : Int → Int → Int → Bool) (ok ok1 : List Int → Int → Prop) (kf af bf zf : Int → Int) (n c nb cb : Nat) (first i : Int) (x : Tru) (w : Vat) (Qn : List VB → List VV → Prop) (Qr : VV → Prop) (Qx : Nat → List VB → List VV → Prop) : codeE Try.prog (callN Try.prog (tabS [(20, stepT B), awT, pickT]) noL 10 20) (fun _ => none) true 10 401 0 (loopB 0 (bodyOf Try.prog 4)) (cT n c nb cb first i x) ⟨5, cBs (.arr 3 ok (gS kf af bf)) (.arr 1 ok1 (gB zf)) (.cells (vat6 w) 25) (.cells (vat8 w) 29)⟩ (cK Qn Qr Qx) =
  (bif decide (i < (↑n : Int)) then
 bif decide (0 ≤ i ∧ i < (↑n : Int)) then
 ok [] (0 + i) ∧ bif !B (kf (0 + i)) (af (0 + i)) (bf (0 + i)) then
 Qr (VV.bool false)
 else bif inK IntKind.i64 (i + 3) then
 bif decide ((↑nb : Int) = 0) then
 False
 else bif decide (0 ≤ remZ (i + 3) (↑nb : Int) ∧ remZ (i + 3) (↑nb : Int) < (↑nb : Int)) then
 ok1 [] (0 + remZ (i + 3) (↑nb : Int)) ∧ bif decide (kf (0 + i) = 0) then
 PkOk (af (0 + i)) (bf (0 + i)) (zf (0 + remZ (i + 3) (↑nb : Int))) ∧ bif decide (af (0 + i) ≤ bf (0 + i)) then
 bif inK IntKind.i64 (x.water + pk (af (0 + i)) (bf (0 + i)) (zf (0 + remZ (i + 3) (↑nb : Int)))) then
 bif inK IntKind.i64 (x.taken + pk (af (0 + i)) (bf (0 + i)) (zf (0 + remZ (i + 3) (↑nb : Int)))) then
 bif inK IntKind.i64 (i + 1) then
 Qn [VB.arr 3 ok (gS kf af bf), VB.arr 1 ok1 (gB zf), VB.cells [I w.dl, I w.dh, I w.wl, I w.wh, I w.pl, I w.ph] 25, VB.cells [I w.tl, I w.th, I w.gl, I w.gh, I w.rl, I w.rh, I w.sl, I w.sh] 29] [VV.slice (VA.el 0 [] 0 0) n c, VV.slice (VA.el 1 [] 0 0) nb cb, VV.ptr (VA.own 3 0), VV.ptr (VA.own 4 0), I x.dry, I (x.water + pk (af (0 + i)) (bf (0 + i)) (zf (0 + remZ (i + 3) (↑nb : Int)))), I x.phenol, I first, I (x.taken + pk (af (0 + i)) (bf (0 + i)) (zf (0 + remZ (i + 3) (↑nb : Int)))), I x.gas, I x.roots, I x.steam, I (i + 1)]
 else False
 else False
 else False
 else bif inK IntKind.i64 (x.water + 0) then
 bif inK IntKind.i64 (x.taken + 0) then
 Qr (VV.bool true)
 else False
 else False
 else bif decide (kf (0 + i) = 1) then
 bif inK IntKind.i64 (af (0 + i) * x.dry) then
 bif inK IntKind.i64 (af (0 + i) * x.dry + 9999) then
 bif inK IntKind.i64 (quoZ (af (0 + i) * x.dry + 9999) 10000) then
 bif inK IntKind.i64 (bf (0 + i) * x.dry) then
 bif inK IntKind.i64 (quoZ (bf (0 + i) * x.dry) 10000) then
 PkOk (quoZ (af (0 + i) * x.dry + 9999) 10000) (quoZ (bf (0 + i) * x.dry) 10000) (zf (0 + remZ (i + 3) (↑nb : Int))) ∧ bif decide (quoZ (af (0 + i) * x.dry + 9999) 10000 ≤ quoZ (bf (0 + i) * x.dry) 10000) then
 bif inK IntKind.i64 (x.dry - pk (quoZ (af (0 + i) * x.dry + 9999) 10000) (quoZ (bf (0 + i) * x.dry) 10000) (zf (0 + remZ (i + 3) (↑nb : Int)))) then
 bif inK IntKind.i64 (x.gas + pk (quoZ (af (0 + i) * x.dry + 9999) 10000) (quoZ (bf (0 + i) * x.dry) 10000) (zf (0 + remZ (i + 3) (↑nb : Int)))) then
 bif inK IntKind.i64 (i + 1) then
 Qn [VB.arr 3 ok (gS kf af bf), VB.arr 1 ok1 (gB zf), VB.cells [I w.dl, I w.dh, I w.wl, I w.wh, I w.pl, I w.ph] 25, VB.cells [I w.tl, I w.th, I w.gl, I w.gh, I w.rl, I w.rh, I w.sl, I w.sh] 29] [VV.slice (VA.el 0 [] 0 0) n c, VV.slice (VA.el 1 [] 0 0) nb cb, VV.ptr (VA.own 3 0), VV.ptr (VA.own 4 0), I (x.dry - pk (quoZ (af (0 + i) * x.dry + 9999) 10000) (quoZ (bf (0 + i) * x.dry) 10000) (zf (0 + remZ (i + 3) (↑nb : Int)))), I x.water, I x.phenol, I first, I x.taken, I (x.gas + pk (quoZ (af (0 + i) * x.dry + 9999) 10000) (quoZ (bf (0 + i) * x.dry) 10000) (zf (0 + remZ (i + 3) (↑nb : Int)))), I x.roots, I x.steam, I (i + 1)]
 else False
 else False
 else False
 else bif inK IntKind.i64 (x.dry - 0) then
 bif inK IntKind.i64 (x.gas + 0) then
 Qr (VV.bool true)
 else False
 else False
 else False
 else False
 else False
 else False
 else False
 else bif decide (kf (0 + i) = 2) then
 bif inK IntKind.i64 (af (0 + i) * x.dry) then
 bif inK IntKind.i64 (af (0 + i) * x.dry + 9999) then
 bif inK IntKind.i64 (quoZ (af (0 + i) * x.dry + 9999) 10000) then
 bif inK IntKind.i64 (bf (0 + i) * x.dry) then
 bif inK IntKind.i64 (quoZ (bf (0 + i) * x.dry) 10000) then
 PkOk (quoZ (af (0 + i) * x.dry + 9999) 10000) (min (quoZ (bf (0 + i) * x.dry) 10000) x.water) (zf (0 + remZ (i + 3) (↑nb : Int))) ∧ bif decide (quoZ (af (0 + i) * x.dry + 9999) 10000 ≤ min (quoZ (bf (0 + i) * x.dry) 10000) x.water) then
 bif inK IntKind.i64 (x.steam + x.water) then
 bif inK IntKind.i64 (x.steam + x.water - pk (quoZ (af (0 + i) * x.dry + 9999) 10000) (min (quoZ (bf (0 + i) * x.dry) 10000) x.water) (zf (0 + remZ (i + 3) (↑nb : Int)))) then
 bif inK IntKind.i64 (i + 1) then
 Qn [VB.arr 3 ok (gS kf af bf), VB.arr 1 ok1 (gB zf), VB.cells [I w.dl, I w.dh, I w.wl, I w.wh, I w.pl, I w.ph] 25, VB.cells [I w.tl, I w.th, I w.gl, I w.gh, I w.rl, I w.rh, I w.sl, I w.sh] 29] [VV.slice (VA.el 0 [] 0 0) n c, VV.slice (VA.el 1 [] 0 0) nb cb, VV.ptr (VA.own 3 0), VV.ptr (VA.own 4 0), I x.dry, I (pk (quoZ (af (0 + i) * x.dry + 9999) 10000) (min (quoZ (bf (0 + i) * x.dry) 10000) x.water) (zf (0 + remZ (i + 3) (↑nb : Int)))), I x.phenol, I first, I x.taken, I x.gas, I x.roots, I (x.steam + x.water - pk (quoZ (af (0 + i) * x.dry + 9999) 10000) (min (quoZ (bf (0 + i) * x.dry) 10000) x.water) (zf (0 + remZ (i + 3) (↑nb : Int)))), I (i + 1)]
 else False
 else False
 else False
 else bif inK IntKind.i64 (x.steam + x.water) then
 bif inK IntKind.i64 (x.steam + x.water - 0) then
 Qr (VV.bool true)
 else False
 else False
 else False
 else False
 else False
 else False
 else False
 else bif decide (kf (0 + i) = 3) then
 bif inK IntKind.i64 (af (0 + i) * x.dry) then
 bif inK IntKind.i64 (af (0 + i) * x.dry + 999) then
 bif inK IntKind.i64 (quoZ (af (0 + i) * x.dry + 999) 1000) then
 bif inK IntKind.i64 (bf (0 + i) * x.dry) then
 bif inK IntKind.i64 (quoZ (bf (0 + i) * x.dry) 1000) then
 PkOk (quoZ (af (0 + i) * x.dry + 999) 1000) (quoZ (bf (0 + i) * x.dry) 1000) (zf (0 + remZ (i + 3) (↑nb : Int))) ∧ bif decide (quoZ (af (0 + i) * x.dry + 999) 1000 ≤ quoZ (bf (0 + i) * x.dry) 1000) then
 bif inK IntKind.i64 (x.phenol + pk (quoZ (af (0 + i) * x.dry + 999) 1000) (quoZ (bf (0 + i) * x.dry) 1000) (zf (0 + remZ (i + 3) (↑nb : Int)))) then
 bif inK IntKind.i64 (i + 1) then
 Qn [VB.arr 3 ok (gS kf af bf), VB.arr 1 ok1 (gB zf), VB.cells [I w.dl, I w.dh, I w.wl, I w.wh, I w.pl, I w.ph] 25, VB.cells [I w.tl, I w.th, I w.gl, I w.gh, I w.rl, I w.rh, I w.sl, I w.sh] 29] [VV.slice (VA.el 0 [] 0 0) n c, VV.slice (VA.el 1 [] 0 0) nb cb, VV.ptr (VA.own 3 0), VV.ptr (VA.own 4 0), I x.dry, I x.water, I (x.phenol + pk (quoZ (af (0 + i) * x.dry + 999) 1000) (quoZ (bf (0 + i) * x.dry) 1000) (zf (0 + remZ (i + 3) (↑nb : Int)))), I first, I x.taken, I x.gas, I x.roots, I x.steam, I (i + 1)]
 else False
 else False
 else bif inK IntKind.i64 (x.phenol + 0) then
 Qr (VV.bool true)
 else False
 else False
 else False
 else False
 else False
 else False
 else bif decide (kf (0 + i) = 4) then
 PkOk (af (0 + i)) (min (bf (0 + i)) x.dry) (zf (0 + remZ (i + 3) (↑nb : Int))) ∧ bif decide (af (0 + i) ≤ min (bf (0 + i)) x.dry) then
 bif inK IntKind.i64 (x.dry - pk (af (0 + i)) (min (bf (0 + i)) x.dry) (zf (0 + remZ (i + 3) (↑nb : Int)))) then
 bif inK IntKind.i64 (x.roots + pk (af (0 + i)) (min (bf (0 + i)) x.dry) (zf (0 + remZ (i + 3) (↑nb : Int)))) then
 bif inK IntKind.i64 (i + 1) then
 Qn [VB.arr 3 ok (gS kf af bf), VB.arr 1 ok1 (gB zf), VB.cells [I w.dl, I w.dh, I w.wl, I w.wh, I w.pl, I w.ph] 25, VB.cells [I w.tl, I w.th, I w.gl, I w.gh, I w.rl, I w.rh, I w.sl, I w.sh] 29] [VV.slice (VA.el 0 [] 0 0) n c, VV.slice (VA.el 1 [] 0 0) nb cb, VV.ptr (VA.own 3 0), VV.ptr (VA.own 4 0), I (x.dry - pk (af (0 + i)) (min (bf (0 + i)) x.dry) (zf (0 + remZ (i + 3) (↑nb : Int)))), I x.water, I x.phenol, I first, I x.taken, I x.gas, I (x.roots + pk (af (0 + i)) (min (bf (0 + i)) x.dry) (zf (0 + remZ (i + 3) (↑nb : Int)))), I x.steam, I (i + 1)]
 else False
 else False
 else False
 else bif inK IntKind.i64 (x.dry - 0) then
 bif inK IntKind.i64 (x.roots + 0) then
 Qr (VV.bool true)
 else False
 else False
 else bif decide (kf (0 + i) = 5) then
 bif inK IntKind.i64 (x.dry + x.water) then
 bif decide (x.dry + x.water ≥ af (0 + i)) then
 bif inK IntKind.i64 (x.dry + x.water) then
 bif !decide (x.dry + x.water ≤ bf (0 + i)) then
 Qr (VV.bool true)
 else bif inK IntKind.i64 (i + 1) then
 Qn [VB.arr 3 ok (gS kf af bf), VB.arr 1 ok1 (gB zf), VB.cells [I w.dl, I w.dh, I w.wl, I w.wh, I w.pl, I w.ph] 25, VB.cells [I w.tl, I w.th, I w.gl, I w.gh, I w.rl, I w.rh, I w.sl, I w.sh] 29] [VV.slice (VA.el 0 [] 0 0) n c, VV.slice (VA.el 1 [] 0 0) nb cb, VV.ptr (VA.own 3 0), VV.ptr (VA.own 4 0), I x.dry, I x.water, I x.phenol, I first, I x.taken, I x.gas, I x.roots, I x.steam, I (i + 1)]
 else False
 else False
 else Qr (VV.bool true)
 else False
 else bif inK IntKind.i64 (i + 1) then
 Qn [VB.arr 3 ok (gS kf af bf), VB.arr 1 ok1 (gB zf), VB.cells [I w.dl, I w.dh, I w.wl, I w.wh, I w.pl, I w.ph] 25, VB.cells [I w.tl, I w.th, I w.gl, I w.gh, I w.rl, I w.rh, I w.sl, I w.sh] 29] [VV.slice (VA.el 0 [] 0 0) n c, VV.slice (VA.el 1 [] 0 0) nb cb, VV.ptr (VA.own 3 0), VV.ptr (VA.own 4 0), I x.dry, I x.water, I x.phenol, I first, I x.taken, I x.gas, I x.roots, I x.steam, I (i + 1)]
 else False
 else False
 else False
 else False
 else Qx 0 [VB.arr 3 ok (gS kf af bf), VB.arr 1 ok1 (gB zf), VB.cells [I w.dl, I w.dh, I w.wl, I w.wh, I w.pl, I w.ph] 25, VB.cells [I w.tl, I w.th, I w.gl, I w.gh, I w.rl, I w.rh, I w.sl, I w.sh] 29] [VV.slice (VA.el 0 [] 0 0) n c, VV.slice (VA.el 1 [] 0 0) nb cb, VV.ptr (VA.own 3 0), VV.ptr (VA.own 4 0), I x.dry, I x.water, I x.phenol, I first, I x.taken, I x.gas, I x.roots, I x.steam, I i]) := by kernel_rfl


end Go.Sx.Malt
