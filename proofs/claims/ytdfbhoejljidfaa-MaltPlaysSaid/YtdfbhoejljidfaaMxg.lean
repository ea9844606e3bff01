/- malt: the law MaltPlays, evaluated. -/
import Derived.Test.YtdfbhoejljidfaaMxf

namespace Go.Sx.Malt
open Go Go.Sx Go.Proofs
set_option maxRecDepth 100000

def awT : FuncId × Spec1 := (11, fun _ args h K => match args with
  | [] => K (.ret (.bool true)) h
  | _ => False)

/-- Play as a row. -/
def plRow (g : FuncId) (S : VB → VV → Prop) (F : Int → Int → Int → Int → Int → Int → Vat × Int × Int) : FuncId × Spec1 := (g, fun _ args h K => match args with
  | [.agg [.int .i64 a, .int .i64 b, .int .i64 c, .int .i64 d, .int .i64 e, .int .i64 f], sl] => (match h.at 0 with
    | .arr s ok g => S (.arr s ok g) sl ∧ K (res4 (F a b c d e f)) h
    | _ => S .gone sl ∧ K (res4 (F a b c d e f)) h)
  | _ => False)

/-- Moisture, phenols as rows. -/
def moRow (g : FuncId) (M : Int → Int → Int → Int → Int → Int → Int × Int × Int) : FuncId × Spec1 := (g, fun _ args h K => match args with
  | [.agg [.int .i64 a, .int .i64 b, .int .i64 c, .int .i64 d, .int .i64 e, .int .i64 f]] => K (res3 (M a b c d e f)) h
  | _ => False)

def boQ (Q : Bool → Prop) : VRes → VH → Prop := fun r _ => match r with
  | .ret (.bool b) => Q b
  | _ => False

theorem law1_ev (ok : List Int → Int → Prop) (kf af bf : Int → Int) (S : VB → VV → Prop) (F : Int → Int → Int → Int → Int → Int → Vat × Int × Int) (M N : Int → Int → Int → Int → Int → Int → Int × Int × Int) (off : Int) (n k : Nat) (a b c d e f : Int) (Q : Bool → Prop) : callN Try.prog (tabS [awT, plRow 12 S F, plRow 13 S F, moRow 14 M, moRow 15 M, moRow 16 N, moRow 17 N]) noL 10 20 0 (.fn 3) [.agg [I a, I b, I c, I d, I e, I f], .slice (.el 0 [] off 0) n k] ⟨1, [(0, .arr 3 ok (gS kf af bf))]⟩ (boQ Q) =
  (bif decide ((↑n : Int) > 60) then
 bif decide ((↑n : Int) ≤ 256) then
 Q true
 else bif decide ((↑n : Int) > 260) then
 Q true
 else S (VB.arr 3 ok (gS kf af bf)) (VV.slice (VA.el 0 [] off 0) n k) ∧ S (VB.arr 3 ok (gS kf af bf)) (VV.slice (VA.el 0 [] off 0) n k) ∧ bif decide ((F a b c d e f).fst.dl = (F a b c d e f).fst.dl) && (decide ((F a b c d e f).fst.dh = (F a b c d e f).fst.dh) && true) && (decide ((F a b c d e f).fst.wl = (F a b c d e f).fst.wl) && (decide ((F a b c d e f).fst.wh = (F a b c d e f).fst.wh) && true) && (decide ((F a b c d e f).fst.pl = (F a b c d e f).fst.pl) && (decide ((F a b c d e f).fst.ph = (F a b c d e f).fst.ph) && true) && true)) then
 bif decide ((F a b c d e f).fst.tl = (F a b c d e f).fst.tl) && (decide ((F a b c d e f).fst.th = (F a b c d e f).fst.th) && true) && (decide ((F a b c d e f).fst.gl = (F a b c d e f).fst.gl) && (decide ((F a b c d e f).fst.gh = (F a b c d e f).fst.gh) && true) && (decide ((F a b c d e f).fst.rl = (F a b c d e f).fst.rl) && (decide ((F a b c d e f).fst.rh = (F a b c d e f).fst.rh) && true) && (decide ((F a b c d e f).fst.sl = (F a b c d e f).fst.sl) && (decide ((F a b c d e f).fst.sh = (F a b c d e f).fst.sh) && true) && true))) then
 bif decide ((F a b c d e f).snd.fst = (F a b c d e f).snd.fst) then
 bif decide ((F a b c d e f).snd.snd = (F a b c d e f).snd.snd) then
 bif decide ((M a b c d e f).fst = (M a b c d e f).fst) && (decide ((M a b c d e f).snd.fst = (M a b c d e f).snd.fst) && true) then
 bif decide ((M a b c d e f).snd.snd = (M a b c d e f).snd.snd) then
 bif decide ((N a b c d e f).fst = (N a b c d e f).fst) && (decide ((N a b c d e f).snd.fst = (N a b c d e f).snd.fst) && true) then
 bif decide ((N a b c d e f).snd.snd = (N a b c d e f).snd.snd) then
 Q true
 else Q false
 else Q false
 else Q false
 else Q false
 else Q false
 else Q false
 else Q false
 else Q false
 else bif decide ((↑n : Int) > 260) then
 Q true
 else S (VB.arr 3 ok (gS kf af bf)) (VV.slice (VA.el 0 [] off 0) n k) ∧ S (VB.arr 3 ok (gS kf af bf)) (VV.slice (VA.el 0 [] off 0) n k) ∧ bif decide ((F a b c d e f).fst.dl = (F a b c d e f).fst.dl) && (decide ((F a b c d e f).fst.dh = (F a b c d e f).fst.dh) && true) && (decide ((F a b c d e f).fst.wl = (F a b c d e f).fst.wl) && (decide ((F a b c d e f).fst.wh = (F a b c d e f).fst.wh) && true) && (decide ((F a b c d e f).fst.pl = (F a b c d e f).fst.pl) && (decide ((F a b c d e f).fst.ph = (F a b c d e f).fst.ph) && true) && true)) then
 bif decide ((F a b c d e f).fst.tl = (F a b c d e f).fst.tl) && (decide ((F a b c d e f).fst.th = (F a b c d e f).fst.th) && true) && (decide ((F a b c d e f).fst.gl = (F a b c d e f).fst.gl) && (decide ((F a b c d e f).fst.gh = (F a b c d e f).fst.gh) && true) && (decide ((F a b c d e f).fst.rl = (F a b c d e f).fst.rl) && (decide ((F a b c d e f).fst.rh = (F a b c d e f).fst.rh) && true) && (decide ((F a b c d e f).fst.sl = (F a b c d e f).fst.sl) && (decide ((F a b c d e f).fst.sh = (F a b c d e f).fst.sh) && true) && true))) then
 bif decide ((F a b c d e f).snd.fst = (F a b c d e f).snd.fst) then
 bif decide ((F a b c d e f).snd.snd = (F a b c d e f).snd.snd) then
 bif decide ((M a b c d e f).fst = (M a b c d e f).fst) && (decide ((M a b c d e f).snd.fst = (M a b c d e f).snd.fst) && true) then
 bif decide ((M a b c d e f).snd.snd = (M a b c d e f).snd.snd) then
 bif decide ((N a b c d e f).fst = (N a b c d e f).fst) && (decide ((N a b c d e f).snd.fst = (N a b c d e f).snd.fst) && true) then
 bif decide ((N a b c d e f).snd.snd = (N a b c d e f).snd.snd) then
 Q true
 else Q false
 else Q false
 else Q false
 else Q false
 else Q false
 else Q false
 else Q false
 else Q false) := by kernel_rfl

theorem law1n_ev (S : VB → VV → Prop) (F : Int → Int → Int → Int → Int → Int → Vat × Int × Int) (M N : Int → Int → Int → Int → Int → Int → Int × Int × Int) (a b c d e f : Int) (Q : Bool → Prop) : callN Try.prog (tabS [awT, plRow 12 S F, plRow 13 S F, moRow 14 M, moRow 15 M, moRow 16 N, moRow 17 N]) noL 10 20 0 (.fn 3) [.agg [I a, I b, I c, I d, I e, I f], .nils] ⟨0, []⟩ (boQ Q) =
  (S VB.gone VV.nils ∧ S VB.gone VV.nils ∧ bif decide ((F a b c d e f).fst.dl = (F a b c d e f).fst.dl) && (decide ((F a b c d e f).fst.dh = (F a b c d e f).fst.dh) && true) && (decide ((F a b c d e f).fst.wl = (F a b c d e f).fst.wl) && (decide ((F a b c d e f).fst.wh = (F a b c d e f).fst.wh) && true) && (decide ((F a b c d e f).fst.pl = (F a b c d e f).fst.pl) && (decide ((F a b c d e f).fst.ph = (F a b c d e f).fst.ph) && true) && true)) then
 bif decide ((F a b c d e f).fst.tl = (F a b c d e f).fst.tl) && (decide ((F a b c d e f).fst.th = (F a b c d e f).fst.th) && true) && (decide ((F a b c d e f).fst.gl = (F a b c d e f).fst.gl) && (decide ((F a b c d e f).fst.gh = (F a b c d e f).fst.gh) && true) && (decide ((F a b c d e f).fst.rl = (F a b c d e f).fst.rl) && (decide ((F a b c d e f).fst.rh = (F a b c d e f).fst.rh) && true) && (decide ((F a b c d e f).fst.sl = (F a b c d e f).fst.sl) && (decide ((F a b c d e f).fst.sh = (F a b c d e f).fst.sh) && true) && true))) then
 bif decide ((F a b c d e f).snd.fst = (F a b c d e f).snd.fst) then
 bif decide ((F a b c d e f).snd.snd = (F a b c d e f).snd.snd) then
 bif decide ((M a b c d e f).fst = (M a b c d e f).fst) && (decide ((M a b c d e f).snd.fst = (M a b c d e f).snd.fst) && true) then
 bif decide ((M a b c d e f).snd.snd = (M a b c d e f).snd.snd) then
 bif decide ((N a b c d e f).fst = (N a b c d e f).fst) && (decide ((N a b c d e f).snd.fst = (N a b c d e f).snd.fst) && true) then
 bif decide ((N a b c d e f).snd.snd = (N a b c d e f).snd.snd) then
 Q true
 else Q false
 else Q false
 else Q false
 else Q false
 else Q false
 else Q false
 else Q false
 else Q false) := by kernel_rfl


end Go.Sx.Malt
