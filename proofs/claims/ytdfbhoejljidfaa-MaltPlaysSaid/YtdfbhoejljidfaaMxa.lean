/- malt: the document's step, and quotients, evaluated. -/
import Derived.Test.YtdfbhoejljidfaaMx8

namespace Go.Sx.Malt
open Go Go.Sx Go.Proofs
set_option maxRecDepth 100000

theorem bh_ev (k a b : Int) (dl dh wl wh pl ph : Int) (Q : VRes → Prop) : callN Try.prog noSpec noL 10 20 0 (.fn 37) [.agg [I dl, I dh, I wl, I wh, I pl, I ph], .agg [I k, I a, I b]] ⟨0, []⟩ (fun r _ => Q r) =
  (bif decide (k = 0) then
 bif inK IntKind.i64 (wl + a) then
 bif inK IntKind.i64 (wh + b) then
 Q (VRes.ret (VV.tup [VV.agg [I dl, I dh, I (wl + a), I (wh + b), I pl, I ph], VV.agg [I a, I b, I 0, I 0, I 0, I 0, I 0, I 0]]))
 else False
 else False
 else bif decide (k = 1) then
 bif inK IntKind.i64 (10000 - b) then
 bif inK IntKind.i64 (dl * (10000 - b)) then
 bif inK IntKind.i64 (dl * (10000 - b) + 10000) then
 bif inK IntKind.i64 (dl * (10000 - b) + 10000 - 1) then
 bif inK IntKind.i64 (quoZ (dl * (10000 - b) + 10000 - 1) 10000) then
 bif inK IntKind.i64 (10000 - a) then
 bif inK IntKind.i64 (dh * (10000 - a)) then
 bif inK IntKind.i64 (quoZ (dh * (10000 - a)) 10000) then
 bif inK IntKind.i64 (a * dl) then
 bif inK IntKind.i64 (a * dl + 10000) then
 bif inK IntKind.i64 (a * dl + 10000 - 1) then
 bif inK IntKind.i64 (quoZ (a * dl + 10000 - 1) 10000) then
 bif inK IntKind.i64 (b * dh) then
 bif inK IntKind.i64 (quoZ (b * dh) 10000) then
 Q (VRes.ret (VV.tup [VV.agg [I (quoZ (dl * (10000 - b) + 10000 - 1) 10000), I (quoZ (dh * (10000 - a)) 10000), I wl, I wh, I pl, I ph], VV.agg [I 0, I 0, I (quoZ (a * dl + 10000 - 1) 10000), I (quoZ (b * dh) 10000), I 0, I 0, I 0, I 0]]))
 else False
 else False
 else False
 else False
 else False
 else False
 else False
 else False
 else False
 else False
 else False
 else False
 else False
 else False
 else bif decide (k = 2) then
 bif inK IntKind.i64 (a * dl) then
 bif inK IntKind.i64 (a * dl + 10000) then
 bif inK IntKind.i64 (a * dl + 10000 - 1) then
 bif inK IntKind.i64 (quoZ (a * dl + 10000 - 1) 10000) then
 bif inK IntKind.i64 (b * dh) then
 bif inK IntKind.i64 (quoZ (b * dh) 10000) then
 bif inK IntKind.i64 (wl - min (quoZ (b * dh) 10000) wh) then
 bif inK IntKind.i64 (wh - quoZ (a * dl + 10000 - 1) 10000) then
 Q (VRes.ret (VV.tup [VV.agg [I dl, I dh, I (quoZ (a * dl + 10000 - 1) 10000), I (min (quoZ (b * dh) 10000) wh), I pl, I ph], VV.agg [I 0, I 0, I 0, I 0, I 0, I 0, I (max 0 (wl - min (quoZ (b * dh) 10000) wh)), I (wh - quoZ (a * dl + 10000 - 1) 10000)]]))
 else False
 else False
 else False
 else False
 else False
 else False
 else False
 else False
 else bif decide (k = 3) then
 bif inK IntKind.i64 (a * dl) then
 bif inK IntKind.i64 (a * dl + 1000) then
 bif inK IntKind.i64 (a * dl + 1000 - 1) then
 bif inK IntKind.i64 (quoZ (a * dl + 1000 - 1) 1000) then
 bif inK IntKind.i64 (pl + quoZ (a * dl + 1000 - 1) 1000) then
 bif inK IntKind.i64 (b * dh) then
 bif inK IntKind.i64 (quoZ (b * dh) 1000) then
 bif inK IntKind.i64 (ph + quoZ (b * dh) 1000) then
 Q (VRes.ret (VV.tup [VV.agg [I dl, I dh, I wl, I wh, I (pl + quoZ (a * dl + 1000 - 1) 1000), I (ph + quoZ (b * dh) 1000)], VV.agg [I 0, I 0, I 0, I 0, I 0, I 0, I 0, I 0]]))
 else False
 else False
 else False
 else False
 else False
 else False
 else False
 else False
 else bif decide (k = 4) then
 bif inK IntKind.i64 (dl - b) then
 bif inK IntKind.i64 (dh - a) then
 Q (VRes.ret (VV.tup [VV.agg [I (max 0 (dl - b)), I (dh - a), I wl, I wh, I pl, I ph], VV.agg [I 0, I 0, I 0, I 0, I a, I (min b dh), I 0, I 0]]))
 else False
 else False
 else bif decide (k = 5) then
 bif inK IntKind.i64 (a - wh) then
 bif inK IntKind.i64 (b - wl) then
 bif inK IntKind.i64 (a - dh) then
 bif inK IntKind.i64 (b - dl) then
 Q (VRes.ret (VV.tup [VV.agg [I (max dl (a - wh)), I (min dh (b - wl)), I (max wl (a - dh)), I (min wh (b - dl)), I pl, I ph], VV.agg [I 0, I 0, I 0, I 0, I 0, I 0, I 0, I 0]]))
 else False
 else False
 else False
 else False
 else Q (VRes.ret (VV.tup [VV.agg [I dl, I dh, I wl, I wh, I pl, I ph], VV.agg [I 0, I 0, I 0, I 0, I 0, I 0, I 0, I 0]]))) := by kernel_rfl

theorem moist_ev (B : Int → Int → Int → Int → Int → Int → Bool) (dl dh wl wh pl ph : Int) (Q : VRes → Prop) : callN Try.prog (tabS [maltT 34 B]) noL 10 20 0 (.fn 14) [.agg [I dl, I dh, I wl, I wh, I pl, I ph]] ⟨0, []⟩ (fun r _ => Q r) =
  (bif !B dl dh wl wh pl ph then
 Q (VRes.ret (VV.tup [VV.agg [I 0, I 0], I 1]))
 else bif inK IntKind.i64 (dl + wl) then
 bif decide (dl + wl = 0) then
 Q (VRes.ret (VV.tup [VV.agg [I 0, I 0], I 4]))
 else bif inK IntKind.i64 (10000 * wl) then
 bif inK IntKind.i64 (wl + dh) then
 bif inK IntKind.i64 (wl + dh) then
 bif decide (wl + dh = 0) then
 bif inK IntKind.i64 (wl + dh + 1) then
 bif decide (wl + dh + 1 = 0) then
 False
 else bif inK IntKind.i64 (quoZ (10000 * wl) (wl + dh + 1)) then
 bif inK IntKind.i64 (10000 * wh) then
 bif inK IntKind.i64 (wh + dl) then
 bif inK IntKind.i64 (wh + dl) then
 bif decide (wh + dl = 0) then
 bif inK IntKind.i64 (wh + dl + 1) then
 bif inK IntKind.i64 (10000 * wh + (wh + dl + 1)) then
 bif inK IntKind.i64 (10000 * wh + (wh + dl + 1) - 1) then
 bif decide (wh + dl + 1 = 0) then
 False
 else bif inK IntKind.i64 (quoZ (10000 * wh + (wh + dl + 1) - 1) (wh + dl + 1)) then
 Q (VRes.ret (VV.tup [VV.agg [I (quoZ (10000 * wl) (wl + dh + 1)), I (quoZ (10000 * wh + (wh + dl + 1) - 1) (wh + dl + 1))], I 0]))
 else False
 else False
 else False
 else False
 else bif inK IntKind.i64 (wh + dl + 0) then
 bif inK IntKind.i64 (10000 * wh + (wh + dl + 0)) then
 bif inK IntKind.i64 (10000 * wh + (wh + dl + 0) - 1) then
 bif decide (wh + dl + 0 = 0) then
 False
 else bif inK IntKind.i64 (quoZ (10000 * wh + (wh + dl + 0) - 1) (wh + dl + 0)) then
 Q (VRes.ret (VV.tup [VV.agg [I (quoZ (10000 * wl) (wl + dh + 1)), I (quoZ (10000 * wh + (wh + dl + 0) - 1) (wh + dl + 0))], I 0]))
 else False
 else False
 else False
 else False
 else False
 else False
 else False
 else False
 else False
 else bif inK IntKind.i64 (wl + dh + 0) then
 bif decide (wl + dh + 0 = 0) then
 False
 else bif inK IntKind.i64 (quoZ (10000 * wl) (wl + dh + 0)) then
 bif inK IntKind.i64 (10000 * wh) then
 bif inK IntKind.i64 (wh + dl) then
 bif inK IntKind.i64 (wh + dl) then
 bif decide (wh + dl = 0) then
 bif inK IntKind.i64 (wh + dl + 1) then
 bif inK IntKind.i64 (10000 * wh + (wh + dl + 1)) then
 bif inK IntKind.i64 (10000 * wh + (wh + dl + 1) - 1) then
 bif decide (wh + dl + 1 = 0) then
 False
 else bif inK IntKind.i64 (quoZ (10000 * wh + (wh + dl + 1) - 1) (wh + dl + 1)) then
 Q (VRes.ret (VV.tup [VV.agg [I (quoZ (10000 * wl) (wl + dh + 0)), I (quoZ (10000 * wh + (wh + dl + 1) - 1) (wh + dl + 1))], I 0]))
 else False
 else False
 else False
 else False
 else bif inK IntKind.i64 (wh + dl + 0) then
 bif inK IntKind.i64 (10000 * wh + (wh + dl + 0)) then
 bif inK IntKind.i64 (10000 * wh + (wh + dl + 0) - 1) then
 bif decide (wh + dl + 0 = 0) then
 False
 else bif inK IntKind.i64 (quoZ (10000 * wh + (wh + dl + 0) - 1) (wh + dl + 0)) then
 Q (VRes.ret (VV.tup [VV.agg [I (quoZ (10000 * wl) (wl + dh + 0)), I (quoZ (10000 * wh + (wh + dl + 0) - 1) (wh + dl + 0))], I 0]))
 else False
 else False
 else False
 else False
 else False
 else False
 else False
 else False
 else False
 else False
 else False
 else False
 else False) := by kernel_rfl

theorem rmoist_ev (B : Int → Int → Int → Int → Int → Int → Bool) (dl dh wl wh pl ph : Int) (Q : VRes → Prop) : callN Try.prog (tabS [maltT 18 B]) noL 10 20 0 (.fn 15) [.agg [I dl, I dh, I wl, I wh, I pl, I ph]] ⟨0, []⟩ (fun r _ => Q r) =
  (bif !B dl dh wl wh pl ph then
 Q (VRes.ret (VV.tup [VV.agg [I 0, I 0], I 1]))
 else bif decide (dl = 0) then
 bif decide (wl = 0) then
 Q (VRes.ret (VV.tup [VV.agg [I 0, I 0], I 4]))
 else bif decide (wl > 0) then
 bif inK IntKind.i64 (10000 * wl) then
 bif inK IntKind.i64 (wl + dh) then
 bif decide (wl + dh = 0) then
 False
 else bif inK IntKind.i64 (quoZ (10000 * wl) (wl + dh)) then
 bif decide (wh > 0) then
 bif inK IntKind.i64 (10000 * wh) then
 bif inK IntKind.i64 (wh + dl) then
 bif inK IntKind.i64 (10000 * wh + (wh + dl)) then
 bif inK IntKind.i64 (10000 * wh + (wh + dl) - 1) then
 bif decide (wh + dl = 0) then
 False
 else bif inK IntKind.i64 (quoZ (10000 * wh + (wh + dl) - 1) (wh + dl)) then
 Q (VRes.ret (VV.tup [VV.agg [I (quoZ (10000 * wl) (wl + dh)), I (quoZ (10000 * wh + (wh + dl) - 1) (wh + dl))], I 0]))
 else False
 else False
 else False
 else False
 else False
 else Q (VRes.ret (VV.tup [VV.agg [I (quoZ (10000 * wl) (wl + dh)), I 0], I 0]))
 else False
 else False
 else False
 else bif decide (wh > 0) then
 bif inK IntKind.i64 (10000 * wh) then
 bif inK IntKind.i64 (wh + dl) then
 bif inK IntKind.i64 (10000 * wh + (wh + dl)) then
 bif inK IntKind.i64 (10000 * wh + (wh + dl) - 1) then
 bif decide (wh + dl = 0) then
 False
 else bif inK IntKind.i64 (quoZ (10000 * wh + (wh + dl) - 1) (wh + dl)) then
 Q (VRes.ret (VV.tup [VV.agg [I 0, I (quoZ (10000 * wh + (wh + dl) - 1) (wh + dl))], I 0]))
 else False
 else False
 else False
 else False
 else False
 else Q (VRes.ret (VV.tup [VV.agg [I 0, I 0], I 0]))
 else bif decide (wl > 0) then
 bif inK IntKind.i64 (10000 * wl) then
 bif inK IntKind.i64 (wl + dh) then
 bif decide (wl + dh = 0) then
 False
 else bif inK IntKind.i64 (quoZ (10000 * wl) (wl + dh)) then
 bif decide (wh > 0) then
 bif inK IntKind.i64 (10000 * wh) then
 bif inK IntKind.i64 (wh + dl) then
 bif inK IntKind.i64 (10000 * wh + (wh + dl)) then
 bif inK IntKind.i64 (10000 * wh + (wh + dl) - 1) then
 bif decide (wh + dl = 0) then
 False
 else bif inK IntKind.i64 (quoZ (10000 * wh + (wh + dl) - 1) (wh + dl)) then
 Q (VRes.ret (VV.tup [VV.agg [I (quoZ (10000 * wl) (wl + dh)), I (quoZ (10000 * wh + (wh + dl) - 1) (wh + dl))], I 0]))
 else False
 else False
 else False
 else False
 else False
 else Q (VRes.ret (VV.tup [VV.agg [I (quoZ (10000 * wl) (wl + dh)), I 0], I 0]))
 else False
 else False
 else False
 else bif decide (wh > 0) then
 bif inK IntKind.i64 (10000 * wh) then
 bif inK IntKind.i64 (wh + dl) then
 bif inK IntKind.i64 (10000 * wh + (wh + dl)) then
 bif inK IntKind.i64 (10000 * wh + (wh + dl) - 1) then
 bif decide (wh + dl = 0) then
 False
 else bif inK IntKind.i64 (quoZ (10000 * wh + (wh + dl) - 1) (wh + dl)) then
 Q (VRes.ret (VV.tup [VV.agg [I 0, I (quoZ (10000 * wh + (wh + dl) - 1) (wh + dl))], I 0]))
 else False
 else False
 else False
 else False
 else False
 else Q (VRes.ret (VV.tup [VV.agg [I 0, I 0], I 0]))) := by kernel_rfl

theorem phen_ev (B : Int → Int → Int → Int → Int → Int → Bool) (dl dh wl wh pl ph : Int) (Q : VRes → Prop) : callN Try.prog (tabS [maltT 34 B]) noL 10 20 0 (.fn 16) [.agg [I dl, I dh, I wl, I wh, I pl, I ph]] ⟨0, []⟩ (fun r _ => Q r) =
  (bif !B dl dh wl wh pl ph then
 Q (VRes.ret (VV.tup [VV.agg [I 0, I 0], I 1]))
 else bif decide (dl = 0) then
 Q (VRes.ret (VV.tup [VV.agg [I 0, I 0], I 4]))
 else bif inK IntKind.i64 (1000 * pl) then
 bif decide (dh = 0) then
 False
 else bif inK IntKind.i64 (quoZ (1000 * pl) dh) then
 bif inK IntKind.i64 (1000 * ph) then
 bif inK IntKind.i64 (1000 * ph + dl) then
 bif inK IntKind.i64 (1000 * ph + dl - 1) then
 bif decide (dl = 0) then
 False
 else bif inK IntKind.i64 (quoZ (1000 * ph + dl - 1) dl) then
 Q (VRes.ret (VV.tup [VV.agg [I (quoZ (1000 * pl) dh), I (quoZ (1000 * ph + dl - 1) dl)], I 0]))
 else False
 else False
 else False
 else False
 else False
 else False) := by kernel_rfl

theorem rphen_ev (B : Int → Int → Int → Int → Int → Int → Bool) (dl dh wl wh pl ph : Int) (Q : VRes → Prop) : callN Try.prog (tabS [maltT 18 B]) noL 10 20 0 (.fn 17) [.agg [I dl, I dh, I wl, I wh, I pl, I ph]] ⟨0, []⟩ (fun r _ => Q r) =
  (bif !B dl dh wl wh pl ph then
 Q (VRes.ret (VV.tup [VV.agg [I 0, I 0], I 1]))
 else bif decide (dl = 0) then
 Q (VRes.ret (VV.tup [VV.agg [I 0, I 0], I 4]))
 else bif inK IntKind.i64 (1000 * pl) then
 bif decide (dh = 0) then
 False
 else bif inK IntKind.i64 (quoZ (1000 * pl) dh) then
 bif inK IntKind.i64 (1000 * ph) then
 bif inK IntKind.i64 (1000 * ph + dl) then
 bif inK IntKind.i64 (1000 * ph + dl - 1) then
 bif decide (dl = 0) then
 False
 else bif inK IntKind.i64 (quoZ (1000 * ph + dl - 1) dl) then
 Q (VRes.ret (VV.tup [VV.agg [I (quoZ (1000 * pl) dh), I (quoZ (1000 * ph + dl - 1) dl)], I 0]))
 else False
 else False
 else False
 else False
 else False
 else False) := by kernel_rfl


end Go.Sx.Malt
