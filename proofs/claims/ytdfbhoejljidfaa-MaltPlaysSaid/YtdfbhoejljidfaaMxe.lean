/- malt: the document's Play, evaluated. -/
import Derived.Test.YtdfbhoejljidfaaMxd

namespace Go.Sx.Malt
open Go Go.Sx Go.Proofs
set_option maxRecDepth 100000

theorem rplay_ev (B : Int → Int → Int → Int → Int → Int → Bool) (ok : List Int → Int → Prop) (kf af bf : Int → Int) (off : Int) (n k : Nat) (a b c d e f : Int) (Q : List VV → VB → Prop) : spBL Try.prog 13 (tabS [maltT 18 B]) [(0, rLB ok kf af bf off n k (vat0 a b c d e f))] 10 20 0 [.agg [I a, I b, I c, I d, I e, I f], .slice (.el 0 [] off 0) n k] ⟨1, [(0, .arr 3 ok (gS kf af bf))]⟩ (plQ Q) =
  (bif !B a b c d e f then
 Q [VV.agg [I 0, I 0, I 0, I 0, I 0, I 0], VV.agg [I 0, I 0, I 0, I 0, I 0, I 0, I 0, I 0], I 0, I 1] (VB.arr 3 ok (gS kf af bf))
 else bif decide ((↑n : Int) > 256) then
 Q [VV.agg [I 0, I 0, I 0, I 0, I 0, I 0], VV.agg [I 0, I 0, I 0, I 0, I 0, I 0, I 0, I 0], I 0, I 3] (VB.arr 3 ok (gS kf af bf))
 else FitP 0 { nx := 3 + 1 + 1, bs := [(3 + 1, VB.cells [I 0, I 0, I 0, I 0, I 0, I 0, I 0, I 0] 29), (2 + 1, VB.cells [I 0, I 0, I 0, I 0, I 0, I 0, I 0, I 0] 29), (1 + 1, VB.cells [I 0, I 0, I 0, I 0, I 0, I 0] 25), (0 + 1, VB.cells [I a, I b, I c, I d, I e, I f] 25), (0, VB.arr 3 ok (gS kf af bf))] } [(9, I 0), (8, VV.ptr (VA.own (3 + 1) 0)), (20, VV.bool false), (20, VV.bool (decide ((↑n : Int) > 256))), (19, I (↑n : Int)), (18, VV.slice (VA.el 0 [] off 0) n k), (15, VV.bool false), (15, VV.bool !B a b c d e f), (14, VV.bool (B a b c d e f)), (13, VV.agg [I a, I b, I c, I d, I e, I f]), (7, I 0), (6, I 0), (5, VV.ptr (VA.own (2 + 1) 0)), (4, VV.ptr (VA.own (1 + 1) 0)), (2, VV.ptr (VA.own (0 + 1) 0)), (0, VV.agg [I a, I b, I c, I d, I e, I f]), (0 + 1, VV.slice (VA.el 0 [] off 0) n k)] (rH ok kf af bf (vat0 a b c d e f)) (rT off n k 0) ∧ bif decide ((plR kf af bf off n 0 (vat0 a b c d e f)).snd.snd = 0) then
 Q [VV.agg [I (plR kf af bf off n 0 (vat0 a b c d e f)).fst.dl, I (plR kf af bf off n 0 (vat0 a b c d e f)).fst.dh, I (plR kf af bf off n 0 (vat0 a b c d e f)).fst.wl, I (plR kf af bf off n 0 (vat0 a b c d e f)).fst.wh, I (plR kf af bf off n 0 (vat0 a b c d e f)).fst.pl, I (plR kf af bf off n 0 (vat0 a b c d e f)).fst.ph], VV.agg [I (plR kf af bf off n 0 (vat0 a b c d e f)).fst.tl, I (plR kf af bf off n 0 (vat0 a b c d e f)).fst.th, I (plR kf af bf off n 0 (vat0 a b c d e f)).fst.gl, I (plR kf af bf off n 0 (vat0 a b c d e f)).fst.gh, I (plR kf af bf off n 0 (vat0 a b c d e f)).fst.rl, I (plR kf af bf off n 0 (vat0 a b c d e f)).fst.rh, I (plR kf af bf off n 0 (vat0 a b c d e f)).fst.sl, I (plR kf af bf off n 0 (vat0 a b c d e f)).fst.sh], I (↑n : Int), I 0] (VB.arr 3 ok (gS kf af bf))
 else Q [VV.agg [I 0, I 0, I 0, I 0, I 0, I 0], VV.agg [I 0, I 0, I 0, I 0, I 0, I 0, I 0, I 0], I (plR kf af bf off n 0 (vat0 a b c d e f)).snd.fst, I (plR kf af bf off n 0 (vat0 a b c d e f)).snd.snd] (VB.arr 3 ok (gS kf af bf))) := by kernel_rfl

theorem rplayn_ev (B : Int → Int → Int → Int → Int → Int → Bool) (a b c d e f : Int) (Q : List VV → Prop) : spBL Try.prog 13 (tabS [maltT 18 B]) [] 10 20 0 [.agg [I a, I b, I c, I d, I e, I f], .nils] ⟨0, []⟩ (plQ0 Q) =
  (bif !B a b c d e f then
 Q [VV.agg [I 0, I 0, I 0, I 0, I 0, I 0], VV.agg [I 0, I 0, I 0, I 0, I 0, I 0, I 0, I 0], I 0, I 1]
 else Q [VV.agg [I a, I b, I c, I d, I e, I f], VV.agg [I 0, I 0, I 0, I 0, I 0, I 0, I 0, I 0], I 0, I 0]) := by kernel_rfl

theorem rplayx_ev (B : Int → Int → Int → Int → Int → Int → Bool) (ok : List Int → Int → Prop) (kf af bf : Int → Int) (off : Int) (n k : Nat) (a b c d e f : Int) (Q : List VV → VB → Prop) : spBL Try.prog 13 (tabS [maltT 18 B]) [(0, fun _ _ _ _ => False)] 10 20 0 [.agg [I a, I b, I c, I d, I e, I f], .slice (.el 0 [] off 0) n k] ⟨1, [(0, .arr 3 ok (gS kf af bf))]⟩ (plQ Q) =
  (bif !B a b c d e f then
 Q [VV.agg [I 0, I 0, I 0, I 0, I 0, I 0], VV.agg [I 0, I 0, I 0, I 0, I 0, I 0, I 0, I 0], I 0, I 1] (VB.arr 3 ok (gS kf af bf))
 else bif decide ((↑n : Int) > 256) then
 Q [VV.agg [I 0, I 0, I 0, I 0, I 0, I 0], VV.agg [I 0, I 0, I 0, I 0, I 0, I 0, I 0, I 0], I 0, I 3] (VB.arr 3 ok (gS kf af bf))
 else False) := by kernel_rfl


end Go.Sx.Malt
