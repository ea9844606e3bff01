/- malt: Play, evaluated. -/
import Derived.Test.YtdfbhoejljidfaaMx7

namespace Go.Sx.Malt
open Go Go.Sx Go.Proofs
set_option maxRecDepth 100000

def maltT (f : FuncId) (B : Int → Int → Int → Int → Int → Int → Bool) : FuncId × Spec1 := (f, fun _ args h K => match args with
  | [.agg [.int .i64 a, .int .i64 b, .int .i64 c, .int .i64 d, .int .i64 e, .int .i64 f]] => K (.ret (.bool (B a b c d e f))) h
  | _ => False)

def vat0 (a b c d e f : Int) : Vat := ⟨a, b, c, d, e, f, 0, 0, 0, 0, 0, 0, 0, 0⟩

/-- What Play returns. -/
def plQ0 (Q : List VV → Prop) : VRes → VH → Prop := fun r _ => match r with
  | .ret (.tup vs) => Q vs
  | _ => False

def plQ (Q : List VV → VB → Prop) : VRes → VH → Prop := fun r h => match r with
  | .ret (.tup vs) => Q vs (h.at 0)
  | _ => False

theorem play_ev (B : Int → Int → Int → Int → Int → Int → Bool) (ok : List Int → Int → Prop) (kf af bf : Int → Int) (off : Int) (n k : Nat) (a b c d e f : Int) (Q : List VV → VB → Prop) : spDL Try.prog 12 (tabS [maltT 34 B]) [(1, playB ok kf af bf off n k (vat0 a b c d e f))] 10 20 0 [.agg [I a, I b, I c, I d, I e, I f], .slice (.el 0 [] off 0) n k] ⟨1, [(0, .arr 3 ok (gS kf af bf))]⟩ (plQ Q) =
  (bif !B a b c d e f then
 Q [VV.agg [I 0, I 0, I 0, I 0, I 0, I 0], VV.agg [I 0, I 0, I 0, I 0, I 0, I 0, I 0, I 0], I 0, I 1] (VB.arr 3 ok (gS kf af bf))
 else bif decide ((↑n : Int) > 256) then
 Q [VV.agg [I 0, I 0, I 0, I 0, I 0, I 0], VV.agg [I 0, I 0, I 0, I 0, I 0, I 0, I 0, I 0], I 0, I 3] (VB.arr 3 ok (gS kf af bf))
 else FitP 0 { nx := 4 + 1 + 1, bs := [(4 + 1, VB.cells [I a, I b, I c, I d, I e, I f, I 0, I 0, I 0, I 0, I 0, I 0, I 0, I 0] 79), (3 + 1, VB.cells [I 0] 30), (2 + 1, VB.cells [I 0, I 0, I 0, I 0, I 0, I 0, I 0, I 0] 29), (1 + 1, VB.cells [I 0, I 0, I 0, I 0, I 0, I 0] 25), (0 + 1, VB.cells [I a, I b, I c, I d, I e, I f] 25), (0, VB.arr 3 ok (gS kf af bf))] } [(35, I 0), (34, I (↑n : Int)), (33, VV.slice (VA.el 0 [] off 0) n k), (8, VV.ptr (VA.own (4 + 1) 0)), (32, VV.ptr (VA.own (4 + 1) 0)), (31, VV.agg [I a, I b, I c, I d, I e, I f, I 0, I 0, I 0, I 0, I 0, I 0, I 0, I 0]), (30, VV.agg [I e, I f]), (29, VV.agg [I e, I f]), (28, VV.ptr (VA.own (0 + 1) (3 + 1))), (27, VV.agg [I c, I d]), (26, VV.agg [I c, I d]), (25, VV.ptr (VA.own (0 + 1) (1 + 1))), (24, VV.agg [I a, I b]), (23, VV.agg [I a, I b]), (22, VV.ptr (VA.own (0 + 1) 0)), (21, VV.func 35 [] [VV.ptr (VA.own (3 + 1) 0)]), (15, VV.bool false), (15, VV.bool (decide ((↑n : Int) > 256))), (18, VV.bool (decide ((↑n : Int) > 256))), (17, I (↑n : Int)), (16, VV.slice (VA.el 0 [] off 0) n k), (9, VV.bool false), (9, VV.bool !B a b c d e f), (12, VV.bool !B a b c d e f), (11, VV.bool (B a b c d e f)), (10, VV.agg [I a, I b, I c, I d, I e, I f]), (7, VV.ptr (VA.own (3 + 1) 0)), (6, I 0), (5, VV.ptr (VA.own (2 + 1) 0)), (4, VV.ptr (VA.own (1 + 1) 0)), (2, VV.ptr (VA.own (0 + 1) 0)), (0, VV.agg [I a, I b, I c, I d, I e, I f]), (0 + 1, VV.slice (VA.el 0 [] off 0) n k)] (plH ok kf af bf (vat0 a b c d e f)) (plT off n k 0 0) ∧ bif decide ((plR kf af bf off n 0 (vat0 a b c d e f)).snd.snd = 0) then
 Q [VV.agg [I (plR kf af bf off n 0 (vat0 a b c d e f)).fst.dl, I (plR kf af bf off n 0 (vat0 a b c d e f)).fst.dh, I (plR kf af bf off n 0 (vat0 a b c d e f)).fst.wl, I (plR kf af bf off n 0 (vat0 a b c d e f)).fst.wh, I (plR kf af bf off n 0 (vat0 a b c d e f)).fst.pl, I (plR kf af bf off n 0 (vat0 a b c d e f)).fst.ph], VV.agg [I (plR kf af bf off n 0 (vat0 a b c d e f)).fst.tl, I (plR kf af bf off n 0 (vat0 a b c d e f)).fst.th, I (plR kf af bf off n 0 (vat0 a b c d e f)).fst.gl, I (plR kf af bf off n 0 (vat0 a b c d e f)).fst.gh, I (plR kf af bf off n 0 (vat0 a b c d e f)).fst.rl, I (plR kf af bf off n 0 (vat0 a b c d e f)).fst.rh, I (plR kf af bf off n 0 (vat0 a b c d e f)).fst.sl, I (plR kf af bf off n 0 (vat0 a b c d e f)).fst.sh], I (↑n : Int), I 0] (VB.arr 3 ok (gS kf af bf))
 else Q [VV.agg [I 0, I 0, I 0, I 0, I 0, I 0], VV.agg [I 0, I 0, I 0, I 0, I 0, I 0, I 0, I 0], I (plR kf af bf off n 0 (vat0 a b c d e f)).snd.fst, I (plR kf af bf off n 0 (vat0 a b c d e f)).snd.snd] (VB.arr 3 ok (gS kf af bf))) := by kernel_rfl

theorem playn_ev (B : Int → Int → Int → Int → Int → Int → Bool) (a b c d e f : Int) (Q : List VV → Prop) : spDL Try.prog 12 (tabS [maltT 34 B]) [] 10 20 0 [.agg [I a, I b, I c, I d, I e, I f], .nils] ⟨0, []⟩ (plQ0 Q) =
  (bif !B a b c d e f then
 Q [VV.agg [I 0, I 0, I 0, I 0, I 0, I 0], VV.agg [I 0, I 0, I 0, I 0, I 0, I 0, I 0, I 0], I 0, I 1]
 else Q [VV.agg [I a, I b, I c, I d, I e, I f], VV.agg [I 0, I 0, I 0, I 0, I 0, I 0, I 0, I 0], I 0, I 0]) := by kernel_rfl

theorem playx_ev (B : Int → Int → Int → Int → Int → Int → Bool) (ok : List Int → Int → Prop) (kf af bf : Int → Int) (off : Int) (n k : Nat) (a b c d e f : Int) (Q : List VV → VB → Prop) : spDL Try.prog 12 (tabS [maltT 34 B]) [(1, fun _ _ _ _ => False)] 10 20 0 [.agg [I a, I b, I c, I d, I e, I f], .slice (.el 0 [] off 0) n k] ⟨1, [(0, .arr 3 ok (gS kf af bf))]⟩ (plQ Q) =
  (bif !B a b c d e f then
 Q [VV.agg [I 0, I 0, I 0, I 0, I 0, I 0], VV.agg [I 0, I 0, I 0, I 0, I 0, I 0, I 0, I 0], I 0, I 1] (VB.arr 3 ok (gS kf af bf))
 else bif decide ((↑n : Int) > 256) then
 Q [VV.agg [I 0, I 0, I 0, I 0, I 0, I 0], VV.agg [I 0, I 0, I 0, I 0, I 0, I 0, I 0, I 0], I 0, I 3] (VB.arr 3 ok (gS kf af bf))
 else False) := by kernel_rfl


end Go.Sx.Malt
