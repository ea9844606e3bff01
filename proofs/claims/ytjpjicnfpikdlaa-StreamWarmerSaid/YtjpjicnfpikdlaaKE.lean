/- stream: Kd1 Kd2 Kd3 Kd4 Kd5 Kd6, in one text. -/
import Derived.Test.YtjpjicnfpikdlaaKD
/- stream: points with one more ahead of a point, evaluated. -/

namespace Go.Sx.Str
open Go Go.Sx Go.Proofs
set_option maxRecDepth 100000

def mP (heat : Int) : Pt := ⟨2, 0, 0, 0, 0, heat, heat, 0, 0⟩
abbrev fG : VV := .func 51 [] [.ptr (.own 6 0), .ptr (.own 7 0), .ptr (.own 8 0)]
def slG (w : Wt) : Slots := [(14, fG), (7, .ptr (.own 14 0)), (13, .ptr (.own 13 0)), (12, .agg (wtL w)), (11, .agg (wtL w)), (6, .ptr (.own 12 0)), (5, .ptr (.own 11 0)), (4, .ptr (.own 10 0)), (2, .ptr (.own 9 0)), (0, .agg (wtL w)), (1, fG)]
noncomputable def recG (w : Wt) : VB := .loop true none (slG w) 67 [15, 16] as35 bd35
noncomputable def recGr (w : Wt) : VB := .loop false (some .ret) (slG w) 67 [15, 16] as35 bd35
def VG (n : Nat) (i k : Int) : List VV := [I i, I k, I (n + 1), .yld 15, .ptr (.own 6 0), .ptr (.own 7 0), .ptr (.own 8 0)]
def nsG : List Nat := [0, 1, 2, 3, 4, 5, 6, 7, 8, 10, 11, 12, 13, 14, 15, 16]
noncomputable def BGp (n cap : Nat) (l : Int → Pt) (f : Wt) (at' lim heat : Int) : List VB := [ptsA n l, .cells (wtL f) 25, .cells [.slice (.el 0 [] 0 0) n cap] 26, .cells [I at'] 3, .cells [I lim] 3, .cells (ptL (mP heat)) 47, .cells [.slice (.el 0 [] 0 0) n cap] 26, .cells [I at'] 3, .cells [.ptr (.own 5 0)] 78]
noncomputable def BG (n cap : Nat) (l : Int → Pt) (f : Wt) (at' lim heat : Int) (w : Wt) (xs : List Wt) : List VB := BGp n cap l f at' lim heat ++ [.cells [.sl 16 xs.length] 29, .cells [I 0] 3, .cells [I 0] 30, .cells (wtL w) 89, .cells [.ptr (.own 13 0)] 87, recG f, vecW xs]

theorem w1_ev (n cap : Nat) (l : Int → Pt) (f w : Wt) (xs : List Wt) (i k at' lim heat : Int) (X : VEx → List VV → List VB → Prop) : codeE Try.prog (callN Try.prog (tabS tSt) noL 10 20) (fun _ => none) true 10 44 0 (loopB 0 (bodyOf Try.prog 51)) (dsF.zip (VG n i k)) ⟨17, nsG.zip (BG n cap l f at' lim heat w xs)⟩ (obs 17 dsF nsG X) =
  (bif decide (i < (↑n : Int) + (1 : Int)) then
 bif decide (i = at') then
 bif !spanB (mP heat).hlo (mP heat).hhi (0 : Int) (1099511627776 : Int) then
 X VEx.ret [I i, I k, I ((↑n : Int) + (1 : Int)), VV.yld 15, VV.ptr (VA.own 6 0), VV.ptr (VA.own 7 0), VV.ptr (VA.own 8 0)] [ptsA n l, VB.cells [I f.flo, I f.fhi, I f.wlo, I f.whi] (25 : TypeId), VB.cells [VV.slice (VA.el 0 [] (0 : Int) 0) n cap] (26 : TypeId), VB.cells [I at'] (3 : TypeId), VB.cells [I lim] (3 : TypeId), VB.cells [I (mP heat).k, I (mP heat).flo, I (mP heat).fhi, I (mP heat).wlo, I (mP heat).whi, I (mP heat).hlo, I (mP heat).hhi, I (mP heat).slo, I (mP heat).shi] (47 : TypeId), VB.cells [VV.slice (VA.el 0 [] (0 : Int) 0) n cap] (26 : TypeId), VB.cells [I at'] (3 : TypeId), VB.cells [VV.ptr (VA.own 5 0)] (78 : TypeId), VB.cells [VV.nils] (29 : TypeId), VB.cells [I k] (3 : TypeId), VB.cells [I 1] (30 : TypeId), VB.cells [I w.flo, I w.fhi, I w.wlo, I w.whi] (89 : TypeId), VB.cells [VV.ptr (VA.own 13 0)] (87 : TypeId), VB.loop false (some VEx.ret) (slG f) 67 [15, 16] as35 bd35, VB.vec xs.length (fun j => wtL (xs.getD j w0)) 4 (25 : TypeId)]
 else bif decide (w.fhi = (0 : Int)) then
 False
 else bif inK IntKind.i64 (quoZ (mP heat).hlo w.fhi) then
 bif inK IntKind.i64 (w.wlo + quoZ (mP heat).hlo w.fhi) then
 upOk (mP heat).hhi w.flo ∧ bif inK IntKind.i64 (w.whi + quoZ ((mP heat).hhi + w.flo - (1 : Int)) w.flo) then
 bif decide (w.flo < (1 : Int)) then
 X VEx.ret [I i, I k, I ((↑n : Int) + (1 : Int)), VV.yld 15, VV.ptr (VA.own 6 0), VV.ptr (VA.own 7 0), VV.ptr (VA.own 8 0)] [ptsA n l, VB.cells [I f.flo, I f.fhi, I f.wlo, I f.whi] (25 : TypeId), VB.cells [VV.slice (VA.el 0 [] (0 : Int) 0) n cap] (26 : TypeId), VB.cells [I at'] (3 : TypeId), VB.cells [I lim] (3 : TypeId), VB.cells [I (mP heat).k, I (mP heat).flo, I (mP heat).fhi, I (mP heat).wlo, I (mP heat).whi, I (mP heat).hlo, I (mP heat).hhi, I (mP heat).slo, I (mP heat).shi] (47 : TypeId), VB.cells [VV.slice (VA.el 0 [] (0 : Int) 0) n cap] (26 : TypeId), VB.cells [I at'] (3 : TypeId), VB.cells [VV.ptr (VA.own 5 0)] (78 : TypeId), VB.cells [VV.nils] (29 : TypeId), VB.cells [I k] (3 : TypeId), VB.cells [I 10] (30 : TypeId), VB.cells [I w.flo, I w.fhi, I (w.wlo + quoZ (mP heat).hlo w.fhi), I (w.whi + quoZ ((mP heat).hhi + w.flo - (1 : Int)) w.flo)] (89 : TypeId), VB.cells [VV.ptr (VA.own 13 0)] (87 : TypeId), VB.loop false (some VEx.ret) (slG f) 67 [15, 16] as35 bd35, VB.vec xs.length (fun j => wtL (xs.getD j w0)) 4 (25 : TypeId)]
 else bif decide (w.fhi > (1073741824 : Int)) then
 X VEx.ret [I i, I k, I ((↑n : Int) + (1 : Int)), VV.yld 15, VV.ptr (VA.own 6 0), VV.ptr (VA.own 7 0), VV.ptr (VA.own 8 0)] [ptsA n l, VB.cells [I f.flo, I f.fhi, I f.wlo, I f.whi] (25 : TypeId), VB.cells [VV.slice (VA.el 0 [] (0 : Int) 0) n cap] (26 : TypeId), VB.cells [I at'] (3 : TypeId), VB.cells [I lim] (3 : TypeId), VB.cells [I (mP heat).k, I (mP heat).flo, I (mP heat).fhi, I (mP heat).wlo, I (mP heat).whi, I (mP heat).hlo, I (mP heat).hhi, I (mP heat).slo, I (mP heat).shi] (47 : TypeId), VB.cells [VV.slice (VA.el 0 [] (0 : Int) 0) n cap] (26 : TypeId), VB.cells [I at'] (3 : TypeId), VB.cells [VV.ptr (VA.own 5 0)] (78 : TypeId), VB.cells [VV.nils] (29 : TypeId), VB.cells [I k] (3 : TypeId), VB.cells [I 12] (30 : TypeId), VB.cells [I w.flo, I w.fhi, I (w.wlo + quoZ (mP heat).hlo w.fhi), I (w.whi + quoZ ((mP heat).hhi + w.flo - (1 : Int)) w.flo)] (89 : TypeId), VB.cells [VV.ptr (VA.own 13 0)] (87 : TypeId), VB.loop false (some VEx.ret) (slG f) 67 [15, 16] as35 bd35, VB.vec xs.length (fun j => wtL (xs.getD j w0)) 4 (25 : TypeId)]
 else bif decide (w.whi + quoZ ((mP heat).hhi + w.flo - (1 : Int)) w.flo > (100000 : Int)) then
 X VEx.ret [I i, I k, I ((↑n : Int) + (1 : Int)), VV.yld 15, VV.ptr (VA.own 6 0), VV.ptr (VA.own 7 0), VV.ptr (VA.own 8 0)] [ptsA n l, VB.cells [I f.flo, I f.fhi, I f.wlo, I f.whi] (25 : TypeId), VB.cells [VV.slice (VA.el 0 [] (0 : Int) 0) n cap] (26 : TypeId), VB.cells [I at'] (3 : TypeId), VB.cells [I lim] (3 : TypeId), VB.cells [I (mP heat).k, I (mP heat).flo, I (mP heat).fhi, I (mP heat).wlo, I (mP heat).whi, I (mP heat).hlo, I (mP heat).hhi, I (mP heat).slo, I (mP heat).shi] (47 : TypeId), VB.cells [VV.slice (VA.el 0 [] (0 : Int) 0) n cap] (26 : TypeId), VB.cells [I at'] (3 : TypeId), VB.cells [VV.ptr (VA.own 5 0)] (78 : TypeId), VB.cells [VV.nils] (29 : TypeId), VB.cells [I k] (3 : TypeId), VB.cells [I 12] (30 : TypeId), VB.cells [I w.flo, I w.fhi, I (w.wlo + quoZ (mP heat).hlo w.fhi), I (w.whi + quoZ ((mP heat).hhi + w.flo - (1 : Int)) w.flo)] (89 : TypeId), VB.cells [VV.ptr (VA.own 13 0)] (87 : TypeId), VB.loop false (some VEx.ret) (slG f) 67 [15, 16] as35 bd35, VB.vec xs.length (fun j => wtL (xs.getD j w0)) 4 (25 : TypeId)]
 else bif xs.length.beq xs.length then
 bif roomB (xs.length + 1) (32) then
 bif inK IntKind.i64 (k + (1 : Int)) then
 bif decide (i < (↑n : Int)) then
 bif decide ((0 : Int) ≤ i ∧ i < (↑n : Int)) then
 (([] : List Int) = [] ∧ (0 : Int) ≤ (0 : Int) + i ∧ (0 : Int) + i < (↑n : Int)) ∧ bif decide ((l ((0 : Int) + i)).k = (0 : Int)) then
 bif spanB (l ((0 : Int) + i)).flo (l ((0 : Int) + i)).fhi (1 : Int) (1073741824 : Int) then
 bif !spanB (l ((0 : Int) + i)).wlo (l ((0 : Int) + i)).whi (0 : Int) (100000 : Int) then
 X VEx.ret [I i, I (k + (1 : Int)), I ((↑n : Int) + (1 : Int)), VV.yld 15, VV.ptr (VA.own 6 0), VV.ptr (VA.own 7 0), VV.ptr (VA.own 8 0)] [ptsA n l, VB.cells [I f.flo, I f.fhi, I f.wlo, I f.whi] (25 : TypeId), VB.cells [VV.slice (VA.el 0 [] (0 : Int) 0) n cap] (26 : TypeId), VB.cells [I at'] (3 : TypeId), VB.cells [I lim] (3 : TypeId), VB.cells [I (mP heat).k, I (mP heat).flo, I (mP heat).fhi, I (mP heat).wlo, I (mP heat).whi, I (mP heat).hlo, I (mP heat).hhi, I (mP heat).slo, I (mP heat).shi] (47 : TypeId), VB.cells [VV.slice (VA.el 0 [] (0 : Int) 0) n cap] (26 : TypeId), VB.cells [I at'] (3 : TypeId), VB.cells [VV.ptr (VA.own 5 0)] (78 : TypeId), VB.cells [VV.nils] (29 : TypeId), VB.cells [I (k + (1 : Int))] (3 : TypeId), VB.cells [I 1] (30 : TypeId), VB.cells [I w.flo, I w.fhi, I (w.wlo + quoZ (mP heat).hlo w.fhi), I (w.whi + quoZ ((mP heat).hhi + w.flo - (1 : Int)) w.flo)] (89 : TypeId), VB.cells [VV.ptr (VA.own 13 0)] (87 : TypeId), VB.loop false (some VEx.ret) (slG f) 67 [15, 16] as35 bd35, VB.vec (xs.length + 1) (catG xs.length (fun j => wtL (xs.getD j w0)) fun j => List.take (4) (List.drop (j * (4)) [I w.flo, I w.fhi, I (w.wlo + quoZ (mP heat).hlo w.fhi), I (w.whi + quoZ ((mP heat).hhi + w.flo - (1 : Int)) w.flo)])) (4) 25]
 else bif decide ((l ((0 : Int) + i)).wlo < w.wlo + quoZ (mP heat).hlo w.fhi) then
 bif decide ((l ((0 : Int) + i)).whi < w.whi + quoZ ((mP heat).hhi + w.flo - (1 : Int)) w.flo) then
 meanOk (w.wlo + quoZ (mP heat).hlo w.fhi) w.flo (l ((0 : Int) + i)).wlo (l ((0 : Int) + i)).fhi ∧ meanOk (w.whi + quoZ ((mP heat).hhi + w.flo - (1 : Int)) w.flo) w.fhi (l ((0 : Int) + i)).whi (l ((0 : Int) + i)).flo ∧ bif inK IntKind.i64 (w.flo + (l ((0 : Int) + i)).flo) then
 bif inK IntKind.i64 (w.fhi + (l ((0 : Int) + i)).fhi) then
 bif decide (w.flo + (l ((0 : Int) + i)).flo < (1 : Int)) then
 X VEx.ret [I i, I (k + (1 : Int)), I ((↑n : Int) + (1 : Int)), VV.yld 15, VV.ptr (VA.own 6 0), VV.ptr (VA.own 7 0), VV.ptr (VA.own 8 0)] [ptsA n l, VB.cells [I f.flo, I f.fhi, I f.wlo, I f.whi] (25 : TypeId), VB.cells [VV.slice (VA.el 0 [] (0 : Int) 0) n cap] (26 : TypeId), VB.cells [I at'] (3 : TypeId), VB.cells [I lim] (3 : TypeId), VB.cells [I (mP heat).k, I (mP heat).flo, I (mP heat).fhi, I (mP heat).wlo, I (mP heat).whi, I (mP heat).hlo, I (mP heat).hhi, I (mP heat).slo, I (mP heat).shi] (47 : TypeId), VB.cells [VV.slice (VA.el 0 [] (0 : Int) 0) n cap] (26 : TypeId), VB.cells [I at'] (3 : TypeId), VB.cells [VV.ptr (VA.own 5 0)] (78 : TypeId), VB.cells [VV.nils] (29 : TypeId), VB.cells [I (k + (1 : Int))] (3 : TypeId), VB.cells [I 10] (30 : TypeId), VB.cells [I (w.flo + (l ((0 : Int) + i)).flo), I (w.fhi + (l ((0 : Int) + i)).fhi), I (mD (w.wlo + quoZ (mP heat).hlo w.fhi) w.flo (l ((0 : Int) + i)).wlo (l ((0 : Int) + i)).fhi), I (mU (w.whi + quoZ ((mP heat).hhi + w.flo - (1 : Int)) w.flo) w.fhi (l ((0 : Int) + i)).whi (l ((0 : Int) + i)).flo)] (89 : TypeId), VB.cells [VV.ptr (VA.own 13 0)] (87 : TypeId), VB.loop false (some VEx.ret) (slG f) 67 [15, 16] as35 bd35, VB.vec (xs.length + 1) (catG xs.length (fun j => wtL (xs.getD j w0)) fun j => List.take (4) (List.drop (j * (4)) [I w.flo, I w.fhi, I (w.wlo + quoZ (mP heat).hlo w.fhi), I (w.whi + quoZ ((mP heat).hhi + w.flo - (1 : Int)) w.flo)])) (4) 25]
 else bif decide (w.fhi + (l ((0 : Int) + i)).fhi > (1073741824 : Int)) then
 X VEx.ret [I i, I (k + (1 : Int)), I ((↑n : Int) + (1 : Int)), VV.yld 15, VV.ptr (VA.own 6 0), VV.ptr (VA.own 7 0), VV.ptr (VA.own 8 0)] [ptsA n l, VB.cells [I f.flo, I f.fhi, I f.wlo, I f.whi] (25 : TypeId), VB.cells [VV.slice (VA.el 0 [] (0 : Int) 0) n cap] (26 : TypeId), VB.cells [I at'] (3 : TypeId), VB.cells [I lim] (3 : TypeId), VB.cells [I (mP heat).k, I (mP heat).flo, I (mP heat).fhi, I (mP heat).wlo, I (mP heat).whi, I (mP heat).hlo, I (mP heat).hhi, I (mP heat).slo, I (mP heat).shi] (47 : TypeId), VB.cells [VV.slice (VA.el 0 [] (0 : Int) 0) n cap] (26 : TypeId), VB.cells [I at'] (3 : TypeId), VB.cells [VV.ptr (VA.own 5 0)] (78 : TypeId), VB.cells [VV.nils] (29 : TypeId), VB.cells [I (k + (1 : Int))] (3 : TypeId), VB.cells [I 12] (30 : TypeId), VB.cells [I (w.flo + (l ((0 : Int) + i)).flo), I (w.fhi + (l ((0 : Int) + i)).fhi), I (mD (w.wlo + quoZ (mP heat).hlo w.fhi) w.flo (l ((0 : Int) + i)).wlo (l ((0 : Int) + i)).fhi), I (mU (w.whi + quoZ ((mP heat).hhi + w.flo - (1 : Int)) w.flo) w.fhi (l ((0 : Int) + i)).whi (l ((0 : Int) + i)).flo)] (89 : TypeId), VB.cells [VV.ptr (VA.own 13 0)] (87 : TypeId), VB.loop false (some VEx.ret) (slG f) 67 [15, 16] as35 bd35, VB.vec (xs.length + 1) (catG xs.length (fun j => wtL (xs.getD j w0)) fun j => List.take (4) (List.drop (j * (4)) [I w.flo, I w.fhi, I (w.wlo + quoZ (mP heat).hlo w.fhi), I (w.whi + quoZ ((mP heat).hhi + w.flo - (1 : Int)) w.flo)])) (4) 25]
 else bif decide (mU (w.whi + quoZ ((mP heat).hhi + w.flo - (1 : Int)) w.flo) w.fhi (l ((0 : Int) + i)).whi (l ((0 : Int) + i)).flo > (100000 : Int)) then
 X VEx.ret [I i, I (k + (1 : Int)), I ((↑n : Int) + (1 : Int)), VV.yld 15, VV.ptr (VA.own 6 0), VV.ptr (VA.own 7 0), VV.ptr (VA.own 8 0)] [ptsA n l, VB.cells [I f.flo, I f.fhi, I f.wlo, I f.whi] (25 : TypeId), VB.cells [VV.slice (VA.el 0 [] (0 : Int) 0) n cap] (26 : TypeId), VB.cells [I at'] (3 : TypeId), VB.cells [I lim] (3 : TypeId), VB.cells [I (mP heat).k, I (mP heat).flo, I (mP heat).fhi, I (mP heat).wlo, I (mP heat).whi, I (mP heat).hlo, I (mP heat).hhi, I (mP heat).slo, I (mP heat).shi] (47 : TypeId), VB.cells [VV.slice (VA.el 0 [] (0 : Int) 0) n cap] (26 : TypeId), VB.cells [I at'] (3 : TypeId), VB.cells [VV.ptr (VA.own 5 0)] (78 : TypeId), VB.cells [VV.nils] (29 : TypeId), VB.cells [I (k + (1 : Int))] (3 : TypeId), VB.cells [I 12] (30 : TypeId), VB.cells [I (w.flo + (l ((0 : Int) + i)).flo), I (w.fhi + (l ((0 : Int) + i)).fhi), I (mD (w.wlo + quoZ (mP heat).hlo w.fhi) w.flo (l ((0 : Int) + i)).wlo (l ((0 : Int) + i)).fhi), I (mU (w.whi + quoZ ((mP heat).hhi + w.flo - (1 : Int)) w.flo) w.fhi (l ((0 : Int) + i)).whi (l ((0 : Int) + i)).flo)] (89 : TypeId), VB.cells [VV.ptr (VA.own 13 0)] (87 : TypeId), VB.loop false (some VEx.ret) (slG f) 67 [15, 16] as35 bd35, VB.vec (xs.length + 1) (catG xs.length (fun j => wtL (xs.getD j w0)) fun j => List.take (4) (List.drop (j * (4)) [I w.flo, I w.fhi, I (w.wlo + quoZ (mP heat).hlo w.fhi), I (w.whi + quoZ ((mP heat).hhi + w.flo - (1 : Int)) w.flo)])) (4) 25]
 else bif (xs.length + 1).beq (xs.length + 1) then
 bif roomB (xs.length + 1 + 1) (32) then
 bif inK IntKind.i64 (k + (1 : Int) + (1 : Int)) then
 bif inK IntKind.i64 (i + (1 : Int)) then
 X VEx.normal [I (i + (1 : Int)), I (k + (1 : Int) + (1 : Int)), I ((↑n : Int) + (1 : Int)), VV.yld 15, VV.ptr (VA.own 6 0), VV.ptr (VA.own 7 0), VV.ptr (VA.own 8 0)] [ptsA n l, VB.cells [I f.flo, I f.fhi, I f.wlo, I f.whi] (25 : TypeId), VB.cells [VV.slice (VA.el 0 [] (0 : Int) 0) n cap] (26 : TypeId), VB.cells [I at'] (3 : TypeId), VB.cells [I lim] (3 : TypeId), VB.cells [I (mP heat).k, I (mP heat).flo, I (mP heat).fhi, I (mP heat).wlo, I (mP heat).whi, I (mP heat).hlo, I (mP heat).hhi, I (mP heat).slo, I (mP heat).shi] (47 : TypeId), VB.cells [VV.slice (VA.el 0 [] (0 : Int) 0) n cap] (26 : TypeId), VB.cells [I at'] (3 : TypeId), VB.cells [VV.ptr (VA.own 5 0)] (78 : TypeId), VB.cells [VV.sl 16 (xs.length + 1 + 1)] (29 : TypeId), VB.cells [I 0] (3 : TypeId), VB.cells [I 0] (30 : TypeId), VB.cells [I (w.flo + (l ((0 : Int) + i)).flo), I (w.fhi + (l ((0 : Int) + i)).fhi), I (mD (w.wlo + quoZ (mP heat).hlo w.fhi) w.flo (l ((0 : Int) + i)).wlo (l ((0 : Int) + i)).fhi), I (mU (w.whi + quoZ ((mP heat).hhi + w.flo - (1 : Int)) w.flo) w.fhi (l ((0 : Int) + i)).whi (l ((0 : Int) + i)).flo)] (89 : TypeId), VB.cells [VV.ptr (VA.own 13 0)] (87 : TypeId), VB.loop true none (slG f) 67 [15, 16] as35 bd35, VB.vec (xs.length + 1 + 1) (catG (xs.length + 1) (catG xs.length (fun j => wtL (xs.getD j w0)) fun j => List.take (4) (List.drop (j * (4)) [I w.flo, I w.fhi, I (w.wlo + quoZ (mP heat).hlo w.fhi), I (w.whi + quoZ ((mP heat).hhi + w.flo - (1 : Int)) w.flo)])) fun j => List.take (4) (List.drop (j * (4)) [I (w.flo + (l ((0 : Int) + i)).flo), I (w.fhi + (l ((0 : Int) + i)).fhi), I (mD (w.wlo + quoZ (mP heat).hlo w.fhi) w.flo (l ((0 : Int) + i)).wlo (l ((0 : Int) + i)).fhi), I (mU (w.whi + quoZ ((mP heat).hhi + w.flo - (1 : Int)) w.flo) w.fhi (l ((0 : Int) + i)).whi (l ((0 : Int) + i)).flo)])) (4) 25]
 else False
 else False
 else False
 else False
 else False
 else False
 else meanOk (w.wlo + quoZ (mP heat).hlo w.fhi) w.flo (l ((0 : Int) + i)).wlo (l ((0 : Int) + i)).fhi ∧ meanOk (w.whi + quoZ ((mP heat).hhi + w.flo - (1 : Int)) w.flo) w.flo (l ((0 : Int) + i)).whi (l ((0 : Int) + i)).fhi ∧ bif inK IntKind.i64 (w.flo + (l ((0 : Int) + i)).flo) then
 bif inK IntKind.i64 (w.fhi + (l ((0 : Int) + i)).fhi) then
 bif decide (w.flo + (l ((0 : Int) + i)).flo < (1 : Int)) then
 X VEx.ret [I i, I (k + (1 : Int)), I ((↑n : Int) + (1 : Int)), VV.yld 15, VV.ptr (VA.own 6 0), VV.ptr (VA.own 7 0), VV.ptr (VA.own 8 0)] [ptsA n l, VB.cells [I f.flo, I f.fhi, I f.wlo, I f.whi] (25 : TypeId), VB.cells [VV.slice (VA.el 0 [] (0 : Int) 0) n cap] (26 : TypeId), VB.cells [I at'] (3 : TypeId), VB.cells [I lim] (3 : TypeId), VB.cells [I (mP heat).k, I (mP heat).flo, I (mP heat).fhi, I (mP heat).wlo, I (mP heat).whi, I (mP heat).hlo, I (mP heat).hhi, I (mP heat).slo, I (mP heat).shi] (47 : TypeId), VB.cells [VV.slice (VA.el 0 [] (0 : Int) 0) n cap] (26 : TypeId), VB.cells [I at'] (3 : TypeId), VB.cells [VV.ptr (VA.own 5 0)] (78 : TypeId), VB.cells [VV.nils] (29 : TypeId), VB.cells [I (k + (1 : Int))] (3 : TypeId), VB.cells [I 10] (30 : TypeId), VB.cells [I (w.flo + (l ((0 : Int) + i)).flo), I (w.fhi + (l ((0 : Int) + i)).fhi), I (mD (w.wlo + quoZ (mP heat).hlo w.fhi) w.flo (l ((0 : Int) + i)).wlo (l ((0 : Int) + i)).fhi), I (mU (w.whi + quoZ ((mP heat).hhi + w.flo - (1 : Int)) w.flo) w.flo (l ((0 : Int) + i)).whi (l ((0 : Int) + i)).fhi)] (89 : TypeId), VB.cells [VV.ptr (VA.own 13 0)] (87 : TypeId), VB.loop false (some VEx.ret) (slG f) 67 [15, 16] as35 bd35, VB.vec (xs.length + 1) (catG xs.length (fun j => wtL (xs.getD j w0)) fun j => List.take (4) (List.drop (j * (4)) [I w.flo, I w.fhi, I (w.wlo + quoZ (mP heat).hlo w.fhi), I (w.whi + quoZ ((mP heat).hhi + w.flo - (1 : Int)) w.flo)])) (4) 25]
 else bif decide (w.fhi + (l ((0 : Int) + i)).fhi > (1073741824 : Int)) then
 X VEx.ret [I i, I (k + (1 : Int)), I ((↑n : Int) + (1 : Int)), VV.yld 15, VV.ptr (VA.own 6 0), VV.ptr (VA.own 7 0), VV.ptr (VA.own 8 0)] [ptsA n l, VB.cells [I f.flo, I f.fhi, I f.wlo, I f.whi] (25 : TypeId), VB.cells [VV.slice (VA.el 0 [] (0 : Int) 0) n cap] (26 : TypeId), VB.cells [I at'] (3 : TypeId), VB.cells [I lim] (3 : TypeId), VB.cells [I (mP heat).k, I (mP heat).flo, I (mP heat).fhi, I (mP heat).wlo, I (mP heat).whi, I (mP heat).hlo, I (mP heat).hhi, I (mP heat).slo, I (mP heat).shi] (47 : TypeId), VB.cells [VV.slice (VA.el 0 [] (0 : Int) 0) n cap] (26 : TypeId), VB.cells [I at'] (3 : TypeId), VB.cells [VV.ptr (VA.own 5 0)] (78 : TypeId), VB.cells [VV.nils] (29 : TypeId), VB.cells [I (k + (1 : Int))] (3 : TypeId), VB.cells [I 12] (30 : TypeId), VB.cells [I (w.flo + (l ((0 : Int) + i)).flo), I (w.fhi + (l ((0 : Int) + i)).fhi), I (mD (w.wlo + quoZ (mP heat).hlo w.fhi) w.flo (l ((0 : Int) + i)).wlo (l ((0 : Int) + i)).fhi), I (mU (w.whi + quoZ ((mP heat).hhi + w.flo - (1 : Int)) w.flo) w.flo (l ((0 : Int) + i)).whi (l ((0 : Int) + i)).fhi)] (89 : TypeId), VB.cells [VV.ptr (VA.own 13 0)] (87 : TypeId), VB.loop false (some VEx.ret) (slG f) 67 [15, 16] as35 bd35, VB.vec (xs.length + 1) (catG xs.length (fun j => wtL (xs.getD j w0)) fun j => List.take (4) (List.drop (j * (4)) [I w.flo, I w.fhi, I (w.wlo + quoZ (mP heat).hlo w.fhi), I (w.whi + quoZ ((mP heat).hhi + w.flo - (1 : Int)) w.flo)])) (4) 25]
 else bif decide (mU (w.whi + quoZ ((mP heat).hhi + w.flo - (1 : Int)) w.flo) w.flo (l ((0 : Int) + i)).whi (l ((0 : Int) + i)).fhi > (100000 : Int)) then
 X VEx.ret [I i, I (k + (1 : Int)), I ((↑n : Int) + (1 : Int)), VV.yld 15, VV.ptr (VA.own 6 0), VV.ptr (VA.own 7 0), VV.ptr (VA.own 8 0)] [ptsA n l, VB.cells [I f.flo, I f.fhi, I f.wlo, I f.whi] (25 : TypeId), VB.cells [VV.slice (VA.el 0 [] (0 : Int) 0) n cap] (26 : TypeId), VB.cells [I at'] (3 : TypeId), VB.cells [I lim] (3 : TypeId), VB.cells [I (mP heat).k, I (mP heat).flo, I (mP heat).fhi, I (mP heat).wlo, I (mP heat).whi, I (mP heat).hlo, I (mP heat).hhi, I (mP heat).slo, I (mP heat).shi] (47 : TypeId), VB.cells [VV.slice (VA.el 0 [] (0 : Int) 0) n cap] (26 : TypeId), VB.cells [I at'] (3 : TypeId), VB.cells [VV.ptr (VA.own 5 0)] (78 : TypeId), VB.cells [VV.nils] (29 : TypeId), VB.cells [I (k + (1 : Int))] (3 : TypeId), VB.cells [I 12] (30 : TypeId), VB.cells [I (w.flo + (l ((0 : Int) + i)).flo), I (w.fhi + (l ((0 : Int) + i)).fhi), I (mD (w.wlo + quoZ (mP heat).hlo w.fhi) w.flo (l ((0 : Int) + i)).wlo (l ((0 : Int) + i)).fhi), I (mU (w.whi + quoZ ((mP heat).hhi + w.flo - (1 : Int)) w.flo) w.flo (l ((0 : Int) + i)).whi (l ((0 : Int) + i)).fhi)] (89 : TypeId), VB.cells [VV.ptr (VA.own 13 0)] (87 : TypeId), VB.loop false (some VEx.ret) (slG f) 67 [15, 16] as35 bd35, VB.vec (xs.length + 1) (catG xs.length (fun j => wtL (xs.getD j w0)) fun j => List.take (4) (List.drop (j * (4)) [I w.flo, I w.fhi, I (w.wlo + quoZ (mP heat).hlo w.fhi), I (w.whi + quoZ ((mP heat).hhi + w.flo - (1 : Int)) w.flo)])) (4) 25]
 else bif (xs.length + 1).beq (xs.length + 1) then
 bif roomB (xs.length + 1 + 1) (32) then
 bif inK IntKind.i64 (k + (1 : Int) + (1 : Int)) then
 bif inK IntKind.i64 (i + (1 : Int)) then
 X VEx.normal [I (i + (1 : Int)), I (k + (1 : Int) + (1 : Int)), I ((↑n : Int) + (1 : Int)), VV.yld 15, VV.ptr (VA.own 6 0), VV.ptr (VA.own 7 0), VV.ptr (VA.own 8 0)] [ptsA n l, VB.cells [I f.flo, I f.fhi, I f.wlo, I f.whi] (25 : TypeId), VB.cells [VV.slice (VA.el 0 [] (0 : Int) 0) n cap] (26 : TypeId), VB.cells [I at'] (3 : TypeId), VB.cells [I lim] (3 : TypeId), VB.cells [I (mP heat).k, I (mP heat).flo, I (mP heat).fhi, I (mP heat).wlo, I (mP heat).whi, I (mP heat).hlo, I (mP heat).hhi, I (mP heat).slo, I (mP heat).shi] (47 : TypeId), VB.cells [VV.slice (VA.el 0 [] (0 : Int) 0) n cap] (26 : TypeId), VB.cells [I at'] (3 : TypeId), VB.cells [VV.ptr (VA.own 5 0)] (78 : TypeId), VB.cells [VV.sl 16 (xs.length + 1 + 1)] (29 : TypeId), VB.cells [I 0] (3 : TypeId), VB.cells [I 0] (30 : TypeId), VB.cells [I (w.flo + (l ((0 : Int) + i)).flo), I (w.fhi + (l ((0 : Int) + i)).fhi), I (mD (w.wlo + quoZ (mP heat).hlo w.fhi) w.flo (l ((0 : Int) + i)).wlo (l ((0 : Int) + i)).fhi), I (mU (w.whi + quoZ ((mP heat).hhi + w.flo - (1 : Int)) w.flo) w.flo (l ((0 : Int) + i)).whi (l ((0 : Int) + i)).fhi)] (89 : TypeId), VB.cells [VV.ptr (VA.own 13 0)] (87 : TypeId), VB.loop true none (slG f) 67 [15, 16] as35 bd35, VB.vec (xs.length + 1 + 1) (catG (xs.length + 1) (catG xs.length (fun j => wtL (xs.getD j w0)) fun j => List.take (4) (List.drop (j * (4)) [I w.flo, I w.fhi, I (w.wlo + quoZ (mP heat).hlo w.fhi), I (w.whi + quoZ ((mP heat).hhi + w.flo - (1 : Int)) w.flo)])) fun j => List.take (4) (List.drop (j * (4)) [I (w.flo + (l ((0 : Int) + i)).flo), I (w.fhi + (l ((0 : Int) + i)).fhi), I (mD (w.wlo + quoZ (mP heat).hlo w.fhi) w.flo (l ((0 : Int) + i)).wlo (l ((0 : Int) + i)).fhi), I (mU (w.whi + quoZ ((mP heat).hhi + w.flo - (1 : Int)) w.flo) w.flo (l ((0 : Int) + i)).whi (l ((0 : Int) + i)).fhi)])) (4) 25]
 else False
 else False
 else False
 else False
 else False
 else False
 else bif decide ((l ((0 : Int) + i)).whi < w.whi + quoZ ((mP heat).hhi + w.flo - (1 : Int)) w.flo) then
 meanOk (w.wlo + quoZ (mP heat).hlo w.fhi) w.fhi (l ((0 : Int) + i)).wlo (l ((0 : Int) + i)).flo ∧ meanOk (w.whi + quoZ ((mP heat).hhi + w.flo - (1 : Int)) w.flo) w.fhi (l ((0 : Int) + i)).whi (l ((0 : Int) + i)).flo ∧ bif inK IntKind.i64 (w.flo + (l ((0 : Int) + i)).flo) then
 bif inK IntKind.i64 (w.fhi + (l ((0 : Int) + i)).fhi) then
 bif decide (w.flo + (l ((0 : Int) + i)).flo < (1 : Int)) then
 X VEx.ret [I i, I (k + (1 : Int)), I ((↑n : Int) + (1 : Int)), VV.yld 15, VV.ptr (VA.own 6 0), VV.ptr (VA.own 7 0), VV.ptr (VA.own 8 0)] [ptsA n l, VB.cells [I f.flo, I f.fhi, I f.wlo, I f.whi] (25 : TypeId), VB.cells [VV.slice (VA.el 0 [] (0 : Int) 0) n cap] (26 : TypeId), VB.cells [I at'] (3 : TypeId), VB.cells [I lim] (3 : TypeId), VB.cells [I (mP heat).k, I (mP heat).flo, I (mP heat).fhi, I (mP heat).wlo, I (mP heat).whi, I (mP heat).hlo, I (mP heat).hhi, I (mP heat).slo, I (mP heat).shi] (47 : TypeId), VB.cells [VV.slice (VA.el 0 [] (0 : Int) 0) n cap] (26 : TypeId), VB.cells [I at'] (3 : TypeId), VB.cells [VV.ptr (VA.own 5 0)] (78 : TypeId), VB.cells [VV.nils] (29 : TypeId), VB.cells [I (k + (1 : Int))] (3 : TypeId), VB.cells [I 10] (30 : TypeId), VB.cells [I (w.flo + (l ((0 : Int) + i)).flo), I (w.fhi + (l ((0 : Int) + i)).fhi), I (mD (w.wlo + quoZ (mP heat).hlo w.fhi) w.fhi (l ((0 : Int) + i)).wlo (l ((0 : Int) + i)).flo), I (mU (w.whi + quoZ ((mP heat).hhi + w.flo - (1 : Int)) w.flo) w.fhi (l ((0 : Int) + i)).whi (l ((0 : Int) + i)).flo)] (89 : TypeId), VB.cells [VV.ptr (VA.own 13 0)] (87 : TypeId), VB.loop false (some VEx.ret) (slG f) 67 [15, 16] as35 bd35, VB.vec (xs.length + 1) (catG xs.length (fun j => wtL (xs.getD j w0)) fun j => List.take (4) (List.drop (j * (4)) [I w.flo, I w.fhi, I (w.wlo + quoZ (mP heat).hlo w.fhi), I (w.whi + quoZ ((mP heat).hhi + w.flo - (1 : Int)) w.flo)])) (4) 25]
 else bif decide (w.fhi + (l ((0 : Int) + i)).fhi > (1073741824 : Int)) then
 X VEx.ret [I i, I (k + (1 : Int)), I ((↑n : Int) + (1 : Int)), VV.yld 15, VV.ptr (VA.own 6 0), VV.ptr (VA.own 7 0), VV.ptr (VA.own 8 0)] [ptsA n l, VB.cells [I f.flo, I f.fhi, I f.wlo, I f.whi] (25 : TypeId), VB.cells [VV.slice (VA.el 0 [] (0 : Int) 0) n cap] (26 : TypeId), VB.cells [I at'] (3 : TypeId), VB.cells [I lim] (3 : TypeId), VB.cells [I (mP heat).k, I (mP heat).flo, I (mP heat).fhi, I (mP heat).wlo, I (mP heat).whi, I (mP heat).hlo, I (mP heat).hhi, I (mP heat).slo, I (mP heat).shi] (47 : TypeId), VB.cells [VV.slice (VA.el 0 [] (0 : Int) 0) n cap] (26 : TypeId), VB.cells [I at'] (3 : TypeId), VB.cells [VV.ptr (VA.own 5 0)] (78 : TypeId), VB.cells [VV.nils] (29 : TypeId), VB.cells [I (k + (1 : Int))] (3 : TypeId), VB.cells [I 12] (30 : TypeId), VB.cells [I (w.flo + (l ((0 : Int) + i)).flo), I (w.fhi + (l ((0 : Int) + i)).fhi), I (mD (w.wlo + quoZ (mP heat).hlo w.fhi) w.fhi (l ((0 : Int) + i)).wlo (l ((0 : Int) + i)).flo), I (mU (w.whi + quoZ ((mP heat).hhi + w.flo - (1 : Int)) w.flo) w.fhi (l ((0 : Int) + i)).whi (l ((0 : Int) + i)).flo)] (89 : TypeId), VB.cells [VV.ptr (VA.own 13 0)] (87 : TypeId), VB.loop false (some VEx.ret) (slG f) 67 [15, 16] as35 bd35, VB.vec (xs.length + 1) (catG xs.length (fun j => wtL (xs.getD j w0)) fun j => List.take (4) (List.drop (j * (4)) [I w.flo, I w.fhi, I (w.wlo + quoZ (mP heat).hlo w.fhi), I (w.whi + quoZ ((mP heat).hhi + w.flo - (1 : Int)) w.flo)])) (4) 25]
 else bif decide (mU (w.whi + quoZ ((mP heat).hhi + w.flo - (1 : Int)) w.flo) w.fhi (l ((0 : Int) + i)).whi (l ((0 : Int) + i)).flo > (100000 : Int)) then
 X VEx.ret [I i, I (k + (1 : Int)), I ((↑n : Int) + (1 : Int)), VV.yld 15, VV.ptr (VA.own 6 0), VV.ptr (VA.own 7 0), VV.ptr (VA.own 8 0)] [ptsA n l, VB.cells [I f.flo, I f.fhi, I f.wlo, I f.whi] (25 : TypeId), VB.cells [VV.slice (VA.el 0 [] (0 : Int) 0) n cap] (26 : TypeId), VB.cells [I at'] (3 : TypeId), VB.cells [I lim] (3 : TypeId), VB.cells [I (mP heat).k, I (mP heat).flo, I (mP heat).fhi, I (mP heat).wlo, I (mP heat).whi, I (mP heat).hlo, I (mP heat).hhi, I (mP heat).slo, I (mP heat).shi] (47 : TypeId), VB.cells [VV.slice (VA.el 0 [] (0 : Int) 0) n cap] (26 : TypeId), VB.cells [I at'] (3 : TypeId), VB.cells [VV.ptr (VA.own 5 0)] (78 : TypeId), VB.cells [VV.nils] (29 : TypeId), VB.cells [I (k + (1 : Int))] (3 : TypeId), VB.cells [I 12] (30 : TypeId), VB.cells [I (w.flo + (l ((0 : Int) + i)).flo), I (w.fhi + (l ((0 : Int) + i)).fhi), I (mD (w.wlo + quoZ (mP heat).hlo w.fhi) w.fhi (l ((0 : Int) + i)).wlo (l ((0 : Int) + i)).flo), I (mU (w.whi + quoZ ((mP heat).hhi + w.flo - (1 : Int)) w.flo) w.fhi (l ((0 : Int) + i)).whi (l ((0 : Int) + i)).flo)] (89 : TypeId), VB.cells [VV.ptr (VA.own 13 0)] (87 : TypeId), VB.loop false (some VEx.ret) (slG f) 67 [15, 16] as35 bd35, VB.vec (xs.length + 1) (catG xs.length (fun j => wtL (xs.getD j w0)) fun j => List.take (4) (List.drop (j * (4)) [I w.flo, I w.fhi, I (w.wlo + quoZ (mP heat).hlo w.fhi), I (w.whi + quoZ ((mP heat).hhi + w.flo - (1 : Int)) w.flo)])) (4) 25]
 else bif (xs.length + 1).beq (xs.length + 1) then
 bif roomB (xs.length + 1 + 1) (32) then
 bif inK IntKind.i64 (k + (1 : Int) + (1 : Int)) then
 bif inK IntKind.i64 (i + (1 : Int)) then
 X VEx.normal [I (i + (1 : Int)), I (k + (1 : Int) + (1 : Int)), I ((↑n : Int) + (1 : Int)), VV.yld 15, VV.ptr (VA.own 6 0), VV.ptr (VA.own 7 0), VV.ptr (VA.own 8 0)] [ptsA n l, VB.cells [I f.flo, I f.fhi, I f.wlo, I f.whi] (25 : TypeId), VB.cells [VV.slice (VA.el 0 [] (0 : Int) 0) n cap] (26 : TypeId), VB.cells [I at'] (3 : TypeId), VB.cells [I lim] (3 : TypeId), VB.cells [I (mP heat).k, I (mP heat).flo, I (mP heat).fhi, I (mP heat).wlo, I (mP heat).whi, I (mP heat).hlo, I (mP heat).hhi, I (mP heat).slo, I (mP heat).shi] (47 : TypeId), VB.cells [VV.slice (VA.el 0 [] (0 : Int) 0) n cap] (26 : TypeId), VB.cells [I at'] (3 : TypeId), VB.cells [VV.ptr (VA.own 5 0)] (78 : TypeId), VB.cells [VV.sl 16 (xs.length + 1 + 1)] (29 : TypeId), VB.cells [I 0] (3 : TypeId), VB.cells [I 0] (30 : TypeId), VB.cells [I (w.flo + (l ((0 : Int) + i)).flo), I (w.fhi + (l ((0 : Int) + i)).fhi), I (mD (w.wlo + quoZ (mP heat).hlo w.fhi) w.fhi (l ((0 : Int) + i)).wlo (l ((0 : Int) + i)).flo), I (mU (w.whi + quoZ ((mP heat).hhi + w.flo - (1 : Int)) w.flo) w.fhi (l ((0 : Int) + i)).whi (l ((0 : Int) + i)).flo)] (89 : TypeId), VB.cells [VV.ptr (VA.own 13 0)] (87 : TypeId), VB.loop true none (slG f) 67 [15, 16] as35 bd35, VB.vec (xs.length + 1 + 1) (catG (xs.length + 1) (catG xs.length (fun j => wtL (xs.getD j w0)) fun j => List.take (4) (List.drop (j * (4)) [I w.flo, I w.fhi, I (w.wlo + quoZ (mP heat).hlo w.fhi), I (w.whi + quoZ ((mP heat).hhi + w.flo - (1 : Int)) w.flo)])) fun j => List.take (4) (List.drop (j * (4)) [I (w.flo + (l ((0 : Int) + i)).flo), I (w.fhi + (l ((0 : Int) + i)).fhi), I (mD (w.wlo + quoZ (mP heat).hlo w.fhi) w.fhi (l ((0 : Int) + i)).wlo (l ((0 : Int) + i)).flo), I (mU (w.whi + quoZ ((mP heat).hhi + w.flo - (1 : Int)) w.flo) w.fhi (l ((0 : Int) + i)).whi (l ((0 : Int) + i)).flo)])) (4) 25]
 else False
 else False
 else False
 else False
 else False
 else False
 else meanOk (w.wlo + quoZ (mP heat).hlo w.fhi) w.fhi (l ((0 : Int) + i)).wlo (l ((0 : Int) + i)).flo ∧ meanOk (w.whi + quoZ ((mP heat).hhi + w.flo - (1 : Int)) w.flo) w.flo (l ((0 : Int) + i)).whi (l ((0 : Int) + i)).fhi ∧ bif inK IntKind.i64 (w.flo + (l ((0 : Int) + i)).flo) then
 bif inK IntKind.i64 (w.fhi + (l ((0 : Int) + i)).fhi) then
 bif decide (w.flo + (l ((0 : Int) + i)).flo < (1 : Int)) then
 X VEx.ret [I i, I (k + (1 : Int)), I ((↑n : Int) + (1 : Int)), VV.yld 15, VV.ptr (VA.own 6 0), VV.ptr (VA.own 7 0), VV.ptr (VA.own 8 0)] [ptsA n l, VB.cells [I f.flo, I f.fhi, I f.wlo, I f.whi] (25 : TypeId), VB.cells [VV.slice (VA.el 0 [] (0 : Int) 0) n cap] (26 : TypeId), VB.cells [I at'] (3 : TypeId), VB.cells [I lim] (3 : TypeId), VB.cells [I (mP heat).k, I (mP heat).flo, I (mP heat).fhi, I (mP heat).wlo, I (mP heat).whi, I (mP heat).hlo, I (mP heat).hhi, I (mP heat).slo, I (mP heat).shi] (47 : TypeId), VB.cells [VV.slice (VA.el 0 [] (0 : Int) 0) n cap] (26 : TypeId), VB.cells [I at'] (3 : TypeId), VB.cells [VV.ptr (VA.own 5 0)] (78 : TypeId), VB.cells [VV.nils] (29 : TypeId), VB.cells [I (k + (1 : Int))] (3 : TypeId), VB.cells [I 10] (30 : TypeId), VB.cells [I (w.flo + (l ((0 : Int) + i)).flo), I (w.fhi + (l ((0 : Int) + i)).fhi), I (mD (w.wlo + quoZ (mP heat).hlo w.fhi) w.fhi (l ((0 : Int) + i)).wlo (l ((0 : Int) + i)).flo), I (mU (w.whi + quoZ ((mP heat).hhi + w.flo - (1 : Int)) w.flo) w.flo (l ((0 : Int) + i)).whi (l ((0 : Int) + i)).fhi)] (89 : TypeId), VB.cells [VV.ptr (VA.own 13 0)] (87 : TypeId), VB.loop false (some VEx.ret) (slG f) 67 [15, 16] as35 bd35, VB.vec (xs.length + 1) (catG xs.length (fun j => wtL (xs.getD j w0)) fun j => List.take (4) (List.drop (j * (4)) [I w.flo, I w.fhi, I (w.wlo + quoZ (mP heat).hlo w.fhi), I (w.whi + quoZ ((mP heat).hhi + w.flo - (1 : Int)) w.flo)])) (4) 25]
 else bif decide (w.fhi + (l ((0 : Int) + i)).fhi > (1073741824 : Int)) then
 X VEx.ret [I i, I (k + (1 : Int)), I ((↑n : Int) + (1 : Int)), VV.yld 15, VV.ptr (VA.own 6 0), VV.ptr (VA.own 7 0), VV.ptr (VA.own 8 0)] [ptsA n l, VB.cells [I f.flo, I f.fhi, I f.wlo, I f.whi] (25 : TypeId), VB.cells [VV.slice (VA.el 0 [] (0 : Int) 0) n cap] (26 : TypeId), VB.cells [I at'] (3 : TypeId), VB.cells [I lim] (3 : TypeId), VB.cells [I (mP heat).k, I (mP heat).flo, I (mP heat).fhi, I (mP heat).wlo, I (mP heat).whi, I (mP heat).hlo, I (mP heat).hhi, I (mP heat).slo, I (mP heat).shi] (47 : TypeId), VB.cells [VV.slice (VA.el 0 [] (0 : Int) 0) n cap] (26 : TypeId), VB.cells [I at'] (3 : TypeId), VB.cells [VV.ptr (VA.own 5 0)] (78 : TypeId), VB.cells [VV.nils] (29 : TypeId), VB.cells [I (k + (1 : Int))] (3 : TypeId), VB.cells [I 12] (30 : TypeId), VB.cells [I (w.flo + (l ((0 : Int) + i)).flo), I (w.fhi + (l ((0 : Int) + i)).fhi), I (mD (w.wlo + quoZ (mP heat).hlo w.fhi) w.fhi (l ((0 : Int) + i)).wlo (l ((0 : Int) + i)).flo), I (mU (w.whi + quoZ ((mP heat).hhi + w.flo - (1 : Int)) w.flo) w.flo (l ((0 : Int) + i)).whi (l ((0 : Int) + i)).fhi)] (89 : TypeId), VB.cells [VV.ptr (VA.own 13 0)] (87 : TypeId), VB.loop false (some VEx.ret) (slG f) 67 [15, 16] as35 bd35, VB.vec (xs.length + 1) (catG xs.length (fun j => wtL (xs.getD j w0)) fun j => List.take (4) (List.drop (j * (4)) [I w.flo, I w.fhi, I (w.wlo + quoZ (mP heat).hlo w.fhi), I (w.whi + quoZ ((mP heat).hhi + w.flo - (1 : Int)) w.flo)])) (4) 25]
 else bif decide (mU (w.whi + quoZ ((mP heat).hhi + w.flo - (1 : Int)) w.flo) w.flo (l ((0 : Int) + i)).whi (l ((0 : Int) + i)).fhi > (100000 : Int)) then
 X VEx.ret [I i, I (k + (1 : Int)), I ((↑n : Int) + (1 : Int)), VV.yld 15, VV.ptr (VA.own 6 0), VV.ptr (VA.own 7 0), VV.ptr (VA.own 8 0)] [ptsA n l, VB.cells [I f.flo, I f.fhi, I f.wlo, I f.whi] (25 : TypeId), VB.cells [VV.slice (VA.el 0 [] (0 : Int) 0) n cap] (26 : TypeId), VB.cells [I at'] (3 : TypeId), VB.cells [I lim] (3 : TypeId), VB.cells [I (mP heat).k, I (mP heat).flo, I (mP heat).fhi, I (mP heat).wlo, I (mP heat).whi, I (mP heat).hlo, I (mP heat).hhi, I (mP heat).slo, I (mP heat).shi] (47 : TypeId), VB.cells [VV.slice (VA.el 0 [] (0 : Int) 0) n cap] (26 : TypeId), VB.cells [I at'] (3 : TypeId), VB.cells [VV.ptr (VA.own 5 0)] (78 : TypeId), VB.cells [VV.nils] (29 : TypeId), VB.cells [I (k + (1 : Int))] (3 : TypeId), VB.cells [I 12] (30 : TypeId), VB.cells [I (w.flo + (l ((0 : Int) + i)).flo), I (w.fhi + (l ((0 : Int) + i)).fhi), I (mD (w.wlo + quoZ (mP heat).hlo w.fhi) w.fhi (l ((0 : Int) + i)).wlo (l ((0 : Int) + i)).flo), I (mU (w.whi + quoZ ((mP heat).hhi + w.flo - (1 : Int)) w.flo) w.flo (l ((0 : Int) + i)).whi (l ((0 : Int) + i)).fhi)] (89 : TypeId), VB.cells [VV.ptr (VA.own 13 0)] (87 : TypeId), VB.loop false (some VEx.ret) (slG f) 67 [15, 16] as35 bd35, VB.vec (xs.length + 1) (catG xs.length (fun j => wtL (xs.getD j w0)) fun j => List.take (4) (List.drop (j * (4)) [I w.flo, I w.fhi, I (w.wlo + quoZ (mP heat).hlo w.fhi), I (w.whi + quoZ ((mP heat).hhi + w.flo - (1 : Int)) w.flo)])) (4) 25]
 else bif (xs.length + 1).beq (xs.length + 1) then
 bif roomB (xs.length + 1 + 1) (32) then
 bif inK IntKind.i64 (k + (1 : Int) + (1 : Int)) then
 bif inK IntKind.i64 (i + (1 : Int)) then
 X VEx.normal [I (i + (1 : Int)), I (k + (1 : Int) + (1 : Int)), I ((↑n : Int) + (1 : Int)), VV.yld 15, VV.ptr (VA.own 6 0), VV.ptr (VA.own 7 0), VV.ptr (VA.own 8 0)] [ptsA n l, VB.cells [I f.flo, I f.fhi, I f.wlo, I f.whi] (25 : TypeId), VB.cells [VV.slice (VA.el 0 [] (0 : Int) 0) n cap] (26 : TypeId), VB.cells [I at'] (3 : TypeId), VB.cells [I lim] (3 : TypeId), VB.cells [I (mP heat).k, I (mP heat).flo, I (mP heat).fhi, I (mP heat).wlo, I (mP heat).whi, I (mP heat).hlo, I (mP heat).hhi, I (mP heat).slo, I (mP heat).shi] (47 : TypeId), VB.cells [VV.slice (VA.el 0 [] (0 : Int) 0) n cap] (26 : TypeId), VB.cells [I at'] (3 : TypeId), VB.cells [VV.ptr (VA.own 5 0)] (78 : TypeId), VB.cells [VV.sl 16 (xs.length + 1 + 1)] (29 : TypeId), VB.cells [I 0] (3 : TypeId), VB.cells [I 0] (30 : TypeId), VB.cells [I (w.flo + (l ((0 : Int) + i)).flo), I (w.fhi + (l ((0 : Int) + i)).fhi), I (mD (w.wlo + quoZ (mP heat).hlo w.fhi) w.fhi (l ((0 : Int) + i)).wlo (l ((0 : Int) + i)).flo), I (mU (w.whi + quoZ ((mP heat).hhi + w.flo - (1 : Int)) w.flo) w.flo (l ((0 : Int) + i)).whi (l ((0 : Int) + i)).fhi)] (89 : TypeId), VB.cells [VV.ptr (VA.own 13 0)] (87 : TypeId), VB.loop true none (slG f) 67 [15, 16] as35 bd35, VB.vec (xs.length + 1 + 1) (catG (xs.length + 1) (catG xs.length (fun j => wtL (xs.getD j w0)) fun j => List.take (4) (List.drop (j * (4)) [I w.flo, I w.fhi, I (w.wlo + quoZ (mP heat).hlo w.fhi), I (w.whi + quoZ ((mP heat).hhi + w.flo - (1 : Int)) w.flo)])) fun j => List.take (4) (List.drop (j * (4)) [I (w.flo + (l ((0 : Int) + i)).flo), I (w.fhi + (l ((0 : Int) + i)).fhi), I (mD (w.wlo + quoZ (mP heat).hlo w.fhi) w.fhi (l ((0 : Int) + i)).wlo (l ((0 : Int) + i)).flo), I (mU (w.whi + quoZ ((mP heat).hhi + w.flo - (1 : Int)) w.flo) w.flo (l ((0 : Int) + i)).whi (l ((0 : Int) + i)).fhi)])) (4) 25]
 else False
 else False
 else False
 else False
 else False
 else False
 else X VEx.ret [I i, I (k + (1 : Int)), I ((↑n : Int) + (1 : Int)), VV.yld 15, VV.ptr (VA.own 6 0), VV.ptr (VA.own 7 0), VV.ptr (VA.own 8 0)] [ptsA n l, VB.cells [I f.flo, I f.fhi, I f.wlo, I f.whi] (25 : TypeId), VB.cells [VV.slice (VA.el 0 [] (0 : Int) 0) n cap] (26 : TypeId), VB.cells [I at'] (3 : TypeId), VB.cells [I lim] (3 : TypeId), VB.cells [I (mP heat).k, I (mP heat).flo, I (mP heat).fhi, I (mP heat).wlo, I (mP heat).whi, I (mP heat).hlo, I (mP heat).hhi, I (mP heat).slo, I (mP heat).shi] (47 : TypeId), VB.cells [VV.slice (VA.el 0 [] (0 : Int) 0) n cap] (26 : TypeId), VB.cells [I at'] (3 : TypeId), VB.cells [VV.ptr (VA.own 5 0)] (78 : TypeId), VB.cells [VV.nils] (29 : TypeId), VB.cells [I (k + (1 : Int))] (3 : TypeId), VB.cells [I 1] (30 : TypeId), VB.cells [I w.flo, I w.fhi, I (w.wlo + quoZ (mP heat).hlo w.fhi), I (w.whi + quoZ ((mP heat).hhi + w.flo - (1 : Int)) w.flo)] (89 : TypeId), VB.cells [VV.ptr (VA.own 13 0)] (87 : TypeId), VB.loop false (some VEx.ret) (slG f) 67 [15, 16] as35 bd35, VB.vec (xs.length + 1) (catG xs.length (fun j => wtL (xs.getD j w0)) fun j => List.take (4) (List.drop (j * (4)) [I w.flo, I w.fhi, I (w.wlo + quoZ (mP heat).hlo w.fhi), I (w.whi + quoZ ((mP heat).hhi + w.flo - (1 : Int)) w.flo)])) (4) 25]
 else bif decide ((l ((0 : Int) + i)).k = (1 : Int)) then
 bif !spanB (l ((0 : Int) + i)).flo (l ((0 : Int) + i)).fhi (0 : Int) (1073741824 : Int) then
 X VEx.ret [I i, I (k + (1 : Int)), I ((↑n : Int) + (1 : Int)), VV.yld 15, VV.ptr (VA.own 6 0), VV.ptr (VA.own 7 0), VV.ptr (VA.own 8 0)] [ptsA n l, VB.cells [I f.flo, I f.fhi, I f.wlo, I f.whi] (25 : TypeId), VB.cells [VV.slice (VA.el 0 [] (0 : Int) 0) n cap] (26 : TypeId), VB.cells [I at'] (3 : TypeId), VB.cells [I lim] (3 : TypeId), VB.cells [I (mP heat).k, I (mP heat).flo, I (mP heat).fhi, I (mP heat).wlo, I (mP heat).whi, I (mP heat).hlo, I (mP heat).hhi, I (mP heat).slo, I (mP heat).shi] (47 : TypeId), VB.cells [VV.slice (VA.el 0 [] (0 : Int) 0) n cap] (26 : TypeId), VB.cells [I at'] (3 : TypeId), VB.cells [VV.ptr (VA.own 5 0)] (78 : TypeId), VB.cells [VV.nils] (29 : TypeId), VB.cells [I (k + (1 : Int))] (3 : TypeId), VB.cells [I 1] (30 : TypeId), VB.cells [I w.flo, I w.fhi, I (w.wlo + quoZ (mP heat).hlo w.fhi), I (w.whi + quoZ ((mP heat).hhi + w.flo - (1 : Int)) w.flo)] (89 : TypeId), VB.cells [VV.ptr (VA.own 13 0)] (87 : TypeId), VB.loop false (some VEx.ret) (slG f) 67 [15, 16] as35 bd35, VB.vec (xs.length + 1) (catG xs.length (fun j => wtL (xs.getD j w0)) fun j => List.take (4) (List.drop (j * (4)) [I w.flo, I w.fhi, I (w.wlo + quoZ (mP heat).hlo w.fhi), I (w.whi + quoZ ((mP heat).hhi + w.flo - (1 : Int)) w.flo)])) (4) 25]
 else bif inK IntKind.i64 (w.flo - (l ((0 : Int) + i)).fhi) then
 bif inK IntKind.i64 (w.fhi - (l ((0 : Int) + i)).flo) then
 bif decide (w.flo - (l ((0 : Int) + i)).fhi < (1 : Int)) then
 X VEx.ret [I i, I (k + (1 : Int)), I ((↑n : Int) + (1 : Int)), VV.yld 15, VV.ptr (VA.own 6 0), VV.ptr (VA.own 7 0), VV.ptr (VA.own 8 0)] [ptsA n l, VB.cells [I f.flo, I f.fhi, I f.wlo, I f.whi] (25 : TypeId), VB.cells [VV.slice (VA.el 0 [] (0 : Int) 0) n cap] (26 : TypeId), VB.cells [I at'] (3 : TypeId), VB.cells [I lim] (3 : TypeId), VB.cells [I (mP heat).k, I (mP heat).flo, I (mP heat).fhi, I (mP heat).wlo, I (mP heat).whi, I (mP heat).hlo, I (mP heat).hhi, I (mP heat).slo, I (mP heat).shi] (47 : TypeId), VB.cells [VV.slice (VA.el 0 [] (0 : Int) 0) n cap] (26 : TypeId), VB.cells [I at'] (3 : TypeId), VB.cells [VV.ptr (VA.own 5 0)] (78 : TypeId), VB.cells [VV.nils] (29 : TypeId), VB.cells [I (k + (1 : Int))] (3 : TypeId), VB.cells [I 10] (30 : TypeId), VB.cells [I (w.flo - (l ((0 : Int) + i)).fhi), I (w.fhi - (l ((0 : Int) + i)).flo), I (w.wlo + quoZ (mP heat).hlo w.fhi), I (w.whi + quoZ ((mP heat).hhi + w.flo - (1 : Int)) w.flo)] (89 : TypeId), VB.cells [VV.ptr (VA.own 13 0)] (87 : TypeId), VB.loop false (some VEx.ret) (slG f) 67 [15, 16] as35 bd35, VB.vec (xs.length + 1) (catG xs.length (fun j => wtL (xs.getD j w0)) fun j => List.take (4) (List.drop (j * (4)) [I w.flo, I w.fhi, I (w.wlo + quoZ (mP heat).hlo w.fhi), I (w.whi + quoZ ((mP heat).hhi + w.flo - (1 : Int)) w.flo)])) (4) 25]
 else bif decide (w.fhi - (l ((0 : Int) + i)).flo > (1073741824 : Int)) then
 X VEx.ret [I i, I (k + (1 : Int)), I ((↑n : Int) + (1 : Int)), VV.yld 15, VV.ptr (VA.own 6 0), VV.ptr (VA.own 7 0), VV.ptr (VA.own 8 0)] [ptsA n l, VB.cells [I f.flo, I f.fhi, I f.wlo, I f.whi] (25 : TypeId), VB.cells [VV.slice (VA.el 0 [] (0 : Int) 0) n cap] (26 : TypeId), VB.cells [I at'] (3 : TypeId), VB.cells [I lim] (3 : TypeId), VB.cells [I (mP heat).k, I (mP heat).flo, I (mP heat).fhi, I (mP heat).wlo, I (mP heat).whi, I (mP heat).hlo, I (mP heat).hhi, I (mP heat).slo, I (mP heat).shi] (47 : TypeId), VB.cells [VV.slice (VA.el 0 [] (0 : Int) 0) n cap] (26 : TypeId), VB.cells [I at'] (3 : TypeId), VB.cells [VV.ptr (VA.own 5 0)] (78 : TypeId), VB.cells [VV.nils] (29 : TypeId), VB.cells [I (k + (1 : Int))] (3 : TypeId), VB.cells [I 12] (30 : TypeId), VB.cells [I (w.flo - (l ((0 : Int) + i)).fhi), I (w.fhi - (l ((0 : Int) + i)).flo), I (w.wlo + quoZ (mP heat).hlo w.fhi), I (w.whi + quoZ ((mP heat).hhi + w.flo - (1 : Int)) w.flo)] (89 : TypeId), VB.cells [VV.ptr (VA.own 13 0)] (87 : TypeId), VB.loop false (some VEx.ret) (slG f) 67 [15, 16] as35 bd35, VB.vec (xs.length + 1) (catG xs.length (fun j => wtL (xs.getD j w0)) fun j => List.take (4) (List.drop (j * (4)) [I w.flo, I w.fhi, I (w.wlo + quoZ (mP heat).hlo w.fhi), I (w.whi + quoZ ((mP heat).hhi + w.flo - (1 : Int)) w.flo)])) (4) 25]
 else bif decide (w.whi + quoZ ((mP heat).hhi + w.flo - (1 : Int)) w.flo > (100000 : Int)) then
 X VEx.ret [I i, I (k + (1 : Int)), I ((↑n : Int) + (1 : Int)), VV.yld 15, VV.ptr (VA.own 6 0), VV.ptr (VA.own 7 0), VV.ptr (VA.own 8 0)] [ptsA n l, VB.cells [I f.flo, I f.fhi, I f.wlo, I f.whi] (25 : TypeId), VB.cells [VV.slice (VA.el 0 [] (0 : Int) 0) n cap] (26 : TypeId), VB.cells [I at'] (3 : TypeId), VB.cells [I lim] (3 : TypeId), VB.cells [I (mP heat).k, I (mP heat).flo, I (mP heat).fhi, I (mP heat).wlo, I (mP heat).whi, I (mP heat).hlo, I (mP heat).hhi, I (mP heat).slo, I (mP heat).shi] (47 : TypeId), VB.cells [VV.slice (VA.el 0 [] (0 : Int) 0) n cap] (26 : TypeId), VB.cells [I at'] (3 : TypeId), VB.cells [VV.ptr (VA.own 5 0)] (78 : TypeId), VB.cells [VV.nils] (29 : TypeId), VB.cells [I (k + (1 : Int))] (3 : TypeId), VB.cells [I 12] (30 : TypeId), VB.cells [I (w.flo - (l ((0 : Int) + i)).fhi), I (w.fhi - (l ((0 : Int) + i)).flo), I (w.wlo + quoZ (mP heat).hlo w.fhi), I (w.whi + quoZ ((mP heat).hhi + w.flo - (1 : Int)) w.flo)] (89 : TypeId), VB.cells [VV.ptr (VA.own 13 0)] (87 : TypeId), VB.loop false (some VEx.ret) (slG f) 67 [15, 16] as35 bd35, VB.vec (xs.length + 1) (catG xs.length (fun j => wtL (xs.getD j w0)) fun j => List.take (4) (List.drop (j * (4)) [I w.flo, I w.fhi, I (w.wlo + quoZ (mP heat).hlo w.fhi), I (w.whi + quoZ ((mP heat).hhi + w.flo - (1 : Int)) w.flo)])) (4) 25]
 else bif (xs.length + 1).beq (xs.length + 1) then
 bif roomB (xs.length + 1 + 1) (32) then
 bif inK IntKind.i64 (k + (1 : Int) + (1 : Int)) then
 bif inK IntKind.i64 (i + (1 : Int)) then
 X VEx.normal [I (i + (1 : Int)), I (k + (1 : Int) + (1 : Int)), I ((↑n : Int) + (1 : Int)), VV.yld 15, VV.ptr (VA.own 6 0), VV.ptr (VA.own 7 0), VV.ptr (VA.own 8 0)] [ptsA n l, VB.cells [I f.flo, I f.fhi, I f.wlo, I f.whi] (25 : TypeId), VB.cells [VV.slice (VA.el 0 [] (0 : Int) 0) n cap] (26 : TypeId), VB.cells [I at'] (3 : TypeId), VB.cells [I lim] (3 : TypeId), VB.cells [I (mP heat).k, I (mP heat).flo, I (mP heat).fhi, I (mP heat).wlo, I (mP heat).whi, I (mP heat).hlo, I (mP heat).hhi, I (mP heat).slo, I (mP heat).shi] (47 : TypeId), VB.cells [VV.slice (VA.el 0 [] (0 : Int) 0) n cap] (26 : TypeId), VB.cells [I at'] (3 : TypeId), VB.cells [VV.ptr (VA.own 5 0)] (78 : TypeId), VB.cells [VV.sl 16 (xs.length + 1 + 1)] (29 : TypeId), VB.cells [I 0] (3 : TypeId), VB.cells [I 0] (30 : TypeId), VB.cells [I (w.flo - (l ((0 : Int) + i)).fhi), I (w.fhi - (l ((0 : Int) + i)).flo), I (w.wlo + quoZ (mP heat).hlo w.fhi), I (w.whi + quoZ ((mP heat).hhi + w.flo - (1 : Int)) w.flo)] (89 : TypeId), VB.cells [VV.ptr (VA.own 13 0)] (87 : TypeId), VB.loop true none (slG f) 67 [15, 16] as35 bd35, VB.vec (xs.length + 1 + 1) (catG (xs.length + 1) (catG xs.length (fun j => wtL (xs.getD j w0)) fun j => List.take (4) (List.drop (j * (4)) [I w.flo, I w.fhi, I (w.wlo + quoZ (mP heat).hlo w.fhi), I (w.whi + quoZ ((mP heat).hhi + w.flo - (1 : Int)) w.flo)])) fun j => List.take (4) (List.drop (j * (4)) [I (w.flo - (l ((0 : Int) + i)).fhi), I (w.fhi - (l ((0 : Int) + i)).flo), I (w.wlo + quoZ (mP heat).hlo w.fhi), I (w.whi + quoZ ((mP heat).hhi + w.flo - (1 : Int)) w.flo)])) (4) 25]
 else False
 else False
 else False
 else False
 else False
 else False
 else bif decide ((l ((0 : Int) + i)).k = (2 : Int)) then
 bif !spanB (l ((0 : Int) + i)).hlo (l ((0 : Int) + i)).hhi (0 : Int) (1099511627776 : Int) then
 X VEx.ret [I i, I (k + (1 : Int)), I ((↑n : Int) + (1 : Int)), VV.yld 15, VV.ptr (VA.own 6 0), VV.ptr (VA.own 7 0), VV.ptr (VA.own 8 0)] [ptsA n l, VB.cells [I f.flo, I f.fhi, I f.wlo, I f.whi] (25 : TypeId), VB.cells [VV.slice (VA.el 0 [] (0 : Int) 0) n cap] (26 : TypeId), VB.cells [I at'] (3 : TypeId), VB.cells [I lim] (3 : TypeId), VB.cells [I (mP heat).k, I (mP heat).flo, I (mP heat).fhi, I (mP heat).wlo, I (mP heat).whi, I (mP heat).hlo, I (mP heat).hhi, I (mP heat).slo, I (mP heat).shi] (47 : TypeId), VB.cells [VV.slice (VA.el 0 [] (0 : Int) 0) n cap] (26 : TypeId), VB.cells [I at'] (3 : TypeId), VB.cells [VV.ptr (VA.own 5 0)] (78 : TypeId), VB.cells [VV.nils] (29 : TypeId), VB.cells [I (k + (1 : Int))] (3 : TypeId), VB.cells [I 1] (30 : TypeId), VB.cells [I w.flo, I w.fhi, I (w.wlo + quoZ (mP heat).hlo w.fhi), I (w.whi + quoZ ((mP heat).hhi + w.flo - (1 : Int)) w.flo)] (89 : TypeId), VB.cells [VV.ptr (VA.own 13 0)] (87 : TypeId), VB.loop false (some VEx.ret) (slG f) 67 [15, 16] as35 bd35, VB.vec (xs.length + 1) (catG xs.length (fun j => wtL (xs.getD j w0)) fun j => List.take (4) (List.drop (j * (4)) [I w.flo, I w.fhi, I (w.wlo + quoZ (mP heat).hlo w.fhi), I (w.whi + quoZ ((mP heat).hhi + w.flo - (1 : Int)) w.flo)])) (4) 25]
 else bif decide (w.fhi = (0 : Int)) then
 False
 else bif inK IntKind.i64 (quoZ (l ((0 : Int) + i)).hlo w.fhi) then
 bif inK IntKind.i64 (w.wlo + quoZ (mP heat).hlo w.fhi + quoZ (l ((0 : Int) + i)).hlo w.fhi) then
 upOk (l ((0 : Int) + i)).hhi w.flo ∧ bif inK IntKind.i64 (w.whi + quoZ ((mP heat).hhi + w.flo - (1 : Int)) w.flo + quoZ ((l ((0 : Int) + i)).hhi + w.flo - (1 : Int)) w.flo) then
 bif decide (w.flo < (1 : Int)) then
 X VEx.ret [I i, I (k + (1 : Int)), I ((↑n : Int) + (1 : Int)), VV.yld 15, VV.ptr (VA.own 6 0), VV.ptr (VA.own 7 0), VV.ptr (VA.own 8 0)] [ptsA n l, VB.cells [I f.flo, I f.fhi, I f.wlo, I f.whi] (25 : TypeId), VB.cells [VV.slice (VA.el 0 [] (0 : Int) 0) n cap] (26 : TypeId), VB.cells [I at'] (3 : TypeId), VB.cells [I lim] (3 : TypeId), VB.cells [I (mP heat).k, I (mP heat).flo, I (mP heat).fhi, I (mP heat).wlo, I (mP heat).whi, I (mP heat).hlo, I (mP heat).hhi, I (mP heat).slo, I (mP heat).shi] (47 : TypeId), VB.cells [VV.slice (VA.el 0 [] (0 : Int) 0) n cap] (26 : TypeId), VB.cells [I at'] (3 : TypeId), VB.cells [VV.ptr (VA.own 5 0)] (78 : TypeId), VB.cells [VV.nils] (29 : TypeId), VB.cells [I (k + (1 : Int))] (3 : TypeId), VB.cells [I 10] (30 : TypeId), VB.cells [I w.flo, I w.fhi, I (w.wlo + quoZ (mP heat).hlo w.fhi + quoZ (l ((0 : Int) + i)).hlo w.fhi), I (w.whi + quoZ ((mP heat).hhi + w.flo - (1 : Int)) w.flo + quoZ ((l ((0 : Int) + i)).hhi + w.flo - (1 : Int)) w.flo)] (89 : TypeId), VB.cells [VV.ptr (VA.own 13 0)] (87 : TypeId), VB.loop false (some VEx.ret) (slG f) 67 [15, 16] as35 bd35, VB.vec (xs.length + 1) (catG xs.length (fun j => wtL (xs.getD j w0)) fun j => List.take (4) (List.drop (j * (4)) [I w.flo, I w.fhi, I (w.wlo + quoZ (mP heat).hlo w.fhi), I (w.whi + quoZ ((mP heat).hhi + w.flo - (1 : Int)) w.flo)])) (4) 25]
 else bif decide (w.fhi > (1073741824 : Int)) then
 X VEx.ret [I i, I (k + (1 : Int)), I ((↑n : Int) + (1 : Int)), VV.yld 15, VV.ptr (VA.own 6 0), VV.ptr (VA.own 7 0), VV.ptr (VA.own 8 0)] [ptsA n l, VB.cells [I f.flo, I f.fhi, I f.wlo, I f.whi] (25 : TypeId), VB.cells [VV.slice (VA.el 0 [] (0 : Int) 0) n cap] (26 : TypeId), VB.cells [I at'] (3 : TypeId), VB.cells [I lim] (3 : TypeId), VB.cells [I (mP heat).k, I (mP heat).flo, I (mP heat).fhi, I (mP heat).wlo, I (mP heat).whi, I (mP heat).hlo, I (mP heat).hhi, I (mP heat).slo, I (mP heat).shi] (47 : TypeId), VB.cells [VV.slice (VA.el 0 [] (0 : Int) 0) n cap] (26 : TypeId), VB.cells [I at'] (3 : TypeId), VB.cells [VV.ptr (VA.own 5 0)] (78 : TypeId), VB.cells [VV.nils] (29 : TypeId), VB.cells [I (k + (1 : Int))] (3 : TypeId), VB.cells [I 12] (30 : TypeId), VB.cells [I w.flo, I w.fhi, I (w.wlo + quoZ (mP heat).hlo w.fhi + quoZ (l ((0 : Int) + i)).hlo w.fhi), I (w.whi + quoZ ((mP heat).hhi + w.flo - (1 : Int)) w.flo + quoZ ((l ((0 : Int) + i)).hhi + w.flo - (1 : Int)) w.flo)] (89 : TypeId), VB.cells [VV.ptr (VA.own 13 0)] (87 : TypeId), VB.loop false (some VEx.ret) (slG f) 67 [15, 16] as35 bd35, VB.vec (xs.length + 1) (catG xs.length (fun j => wtL (xs.getD j w0)) fun j => List.take (4) (List.drop (j * (4)) [I w.flo, I w.fhi, I (w.wlo + quoZ (mP heat).hlo w.fhi), I (w.whi + quoZ ((mP heat).hhi + w.flo - (1 : Int)) w.flo)])) (4) 25]
 else bif decide (w.whi + quoZ ((mP heat).hhi + w.flo - (1 : Int)) w.flo + quoZ ((l ((0 : Int) + i)).hhi + w.flo - (1 : Int)) w.flo > (100000 : Int)) then
 X VEx.ret [I i, I (k + (1 : Int)), I ((↑n : Int) + (1 : Int)), VV.yld 15, VV.ptr (VA.own 6 0), VV.ptr (VA.own 7 0), VV.ptr (VA.own 8 0)] [ptsA n l, VB.cells [I f.flo, I f.fhi, I f.wlo, I f.whi] (25 : TypeId), VB.cells [VV.slice (VA.el 0 [] (0 : Int) 0) n cap] (26 : TypeId), VB.cells [I at'] (3 : TypeId), VB.cells [I lim] (3 : TypeId), VB.cells [I (mP heat).k, I (mP heat).flo, I (mP heat).fhi, I (mP heat).wlo, I (mP heat).whi, I (mP heat).hlo, I (mP heat).hhi, I (mP heat).slo, I (mP heat).shi] (47 : TypeId), VB.cells [VV.slice (VA.el 0 [] (0 : Int) 0) n cap] (26 : TypeId), VB.cells [I at'] (3 : TypeId), VB.cells [VV.ptr (VA.own 5 0)] (78 : TypeId), VB.cells [VV.nils] (29 : TypeId), VB.cells [I (k + (1 : Int))] (3 : TypeId), VB.cells [I 12] (30 : TypeId), VB.cells [I w.flo, I w.fhi, I (w.wlo + quoZ (mP heat).hlo w.fhi + quoZ (l ((0 : Int) + i)).hlo w.fhi), I (w.whi + quoZ ((mP heat).hhi + w.flo - (1 : Int)) w.flo + quoZ ((l ((0 : Int) + i)).hhi + w.flo - (1 : Int)) w.flo)] (89 : TypeId), VB.cells [VV.ptr (VA.own 13 0)] (87 : TypeId), VB.loop false (some VEx.ret) (slG f) 67 [15, 16] as35 bd35, VB.vec (xs.length + 1) (catG xs.length (fun j => wtL (xs.getD j w0)) fun j => List.take (4) (List.drop (j * (4)) [I w.flo, I w.fhi, I (w.wlo + quoZ (mP heat).hlo w.fhi), I (w.whi + quoZ ((mP heat).hhi + w.flo - (1 : Int)) w.flo)])) (4) 25]
 else bif (xs.length + 1).beq (xs.length + 1) then
 bif roomB (xs.length + 1 + 1) (32) then
 bif inK IntKind.i64 (k + (1 : Int) + (1 : Int)) then
 bif inK IntKind.i64 (i + (1 : Int)) then
 X VEx.normal [I (i + (1 : Int)), I (k + (1 : Int) + (1 : Int)), I ((↑n : Int) + (1 : Int)), VV.yld 15, VV.ptr (VA.own 6 0), VV.ptr (VA.own 7 0), VV.ptr (VA.own 8 0)] [ptsA n l, VB.cells [I f.flo, I f.fhi, I f.wlo, I f.whi] (25 : TypeId), VB.cells [VV.slice (VA.el 0 [] (0 : Int) 0) n cap] (26 : TypeId), VB.cells [I at'] (3 : TypeId), VB.cells [I lim] (3 : TypeId), VB.cells [I (mP heat).k, I (mP heat).flo, I (mP heat).fhi, I (mP heat).wlo, I (mP heat).whi, I (mP heat).hlo, I (mP heat).hhi, I (mP heat).slo, I (mP heat).shi] (47 : TypeId), VB.cells [VV.slice (VA.el 0 [] (0 : Int) 0) n cap] (26 : TypeId), VB.cells [I at'] (3 : TypeId), VB.cells [VV.ptr (VA.own 5 0)] (78 : TypeId), VB.cells [VV.sl 16 (xs.length + 1 + 1)] (29 : TypeId), VB.cells [I 0] (3 : TypeId), VB.cells [I 0] (30 : TypeId), VB.cells [I w.flo, I w.fhi, I (w.wlo + quoZ (mP heat).hlo w.fhi + quoZ (l ((0 : Int) + i)).hlo w.fhi), I (w.whi + quoZ ((mP heat).hhi + w.flo - (1 : Int)) w.flo + quoZ ((l ((0 : Int) + i)).hhi + w.flo - (1 : Int)) w.flo)] (89 : TypeId), VB.cells [VV.ptr (VA.own 13 0)] (87 : TypeId), VB.loop true none (slG f) 67 [15, 16] as35 bd35, VB.vec (xs.length + 1 + 1) (catG (xs.length + 1) (catG xs.length (fun j => wtL (xs.getD j w0)) fun j => List.take (4) (List.drop (j * (4)) [I w.flo, I w.fhi, I (w.wlo + quoZ (mP heat).hlo w.fhi), I (w.whi + quoZ ((mP heat).hhi + w.flo - (1 : Int)) w.flo)])) fun j => List.take (4) (List.drop (j * (4)) [I w.flo, I w.fhi, I (w.wlo + quoZ (mP heat).hlo w.fhi + quoZ (l ((0 : Int) + i)).hlo w.fhi), I (w.whi + quoZ ((mP heat).hhi + w.flo - (1 : Int)) w.flo + quoZ ((l ((0 : Int) + i)).hhi + w.flo - (1 : Int)) w.flo)])) (4) 25]
 else False
 else False
 else False
 else False
 else False
 else False
 else False
 else bif decide ((l ((0 : Int) + i)).k = (3 : Int)) then
 bif spanB (l ((0 : Int) + i)).wlo (l ((0 : Int) + i)).whi (0 : Int) (100000 : Int) then
 bif !spanB (l ((0 : Int) + i)).slo (l ((0 : Int) + i)).shi (0 : Int) (10000 : Int) then
 X VEx.ret [I i, I (k + (1 : Int)), I ((↑n : Int) + (1 : Int)), VV.yld 15, VV.ptr (VA.own 6 0), VV.ptr (VA.own 7 0), VV.ptr (VA.own 8 0)] [ptsA n l, VB.cells [I f.flo, I f.fhi, I f.wlo, I f.whi] (25 : TypeId), VB.cells [VV.slice (VA.el 0 [] (0 : Int) 0) n cap] (26 : TypeId), VB.cells [I at'] (3 : TypeId), VB.cells [I lim] (3 : TypeId), VB.cells [I (mP heat).k, I (mP heat).flo, I (mP heat).fhi, I (mP heat).wlo, I (mP heat).whi, I (mP heat).hlo, I (mP heat).hhi, I (mP heat).slo, I (mP heat).shi] (47 : TypeId), VB.cells [VV.slice (VA.el 0 [] (0 : Int) 0) n cap] (26 : TypeId), VB.cells [I at'] (3 : TypeId), VB.cells [VV.ptr (VA.own 5 0)] (78 : TypeId), VB.cells [VV.nils] (29 : TypeId), VB.cells [I (k + (1 : Int))] (3 : TypeId), VB.cells [I 1] (30 : TypeId), VB.cells [I w.flo, I w.fhi, I (w.wlo + quoZ (mP heat).hlo w.fhi), I (w.whi + quoZ ((mP heat).hhi + w.flo - (1 : Int)) w.flo)] (89 : TypeId), VB.cells [VV.ptr (VA.own 13 0)] (87 : TypeId), VB.loop false (some VEx.ret) (slG f) 67 [15, 16] as35 bd35, VB.vec (xs.length + 1) (catG xs.length (fun j => wtL (xs.getD j w0)) fun j => List.take (4) (List.drop (j * (4)) [I w.flo, I w.fhi, I (w.wlo + quoZ (mP heat).hlo w.fhi), I (w.whi + quoZ ((mP heat).hhi + w.flo - (1 : Int)) w.flo)])) (4) 25]
 else bif decide (w.wlo + quoZ (mP heat).hlo w.fhi > (l ((0 : Int) + i)).wlo) then
 bif decide (w.whi + quoZ ((mP heat).hhi + w.flo - (1 : Int)) w.flo > (l ((0 : Int) + i)).whi) then
 bif inK IntKind.i64 ((10000 : Int) - (l ((0 : Int) + i)).shi) then
 meanOk (w.wlo + quoZ (mP heat).hlo w.fhi) ((10000 : Int) - (l ((0 : Int) + i)).shi) (l ((0 : Int) + i)).wlo (l ((0 : Int) + i)).shi ∧ bif inK IntKind.i64 ((10000 : Int) - (l ((0 : Int) + i)).slo) then
 meanOk (w.whi + quoZ ((mP heat).hhi + w.flo - (1 : Int)) w.flo) ((10000 : Int) - (l ((0 : Int) + i)).slo) (l ((0 : Int) + i)).whi (l ((0 : Int) + i)).slo ∧ bif decide (w.flo < (1 : Int)) then
 X VEx.ret [I i, I (k + (1 : Int)), I ((↑n : Int) + (1 : Int)), VV.yld 15, VV.ptr (VA.own 6 0), VV.ptr (VA.own 7 0), VV.ptr (VA.own 8 0)] [ptsA n l, VB.cells [I f.flo, I f.fhi, I f.wlo, I f.whi] (25 : TypeId), VB.cells [VV.slice (VA.el 0 [] (0 : Int) 0) n cap] (26 : TypeId), VB.cells [I at'] (3 : TypeId), VB.cells [I lim] (3 : TypeId), VB.cells [I (mP heat).k, I (mP heat).flo, I (mP heat).fhi, I (mP heat).wlo, I (mP heat).whi, I (mP heat).hlo, I (mP heat).hhi, I (mP heat).slo, I (mP heat).shi] (47 : TypeId), VB.cells [VV.slice (VA.el 0 [] (0 : Int) 0) n cap] (26 : TypeId), VB.cells [I at'] (3 : TypeId), VB.cells [VV.ptr (VA.own 5 0)] (78 : TypeId), VB.cells [VV.nils] (29 : TypeId), VB.cells [I (k + (1 : Int))] (3 : TypeId), VB.cells [I 10] (30 : TypeId), VB.cells [I w.flo, I w.fhi, I (mD (w.wlo + quoZ (mP heat).hlo w.fhi) ((10000 : Int) - (l ((0 : Int) + i)).shi) (l ((0 : Int) + i)).wlo (l ((0 : Int) + i)).shi), I (mU (w.whi + quoZ ((mP heat).hhi + w.flo - (1 : Int)) w.flo) ((10000 : Int) - (l ((0 : Int) + i)).slo) (l ((0 : Int) + i)).whi (l ((0 : Int) + i)).slo)] (89 : TypeId), VB.cells [VV.ptr (VA.own 13 0)] (87 : TypeId), VB.loop false (some VEx.ret) (slG f) 67 [15, 16] as35 bd35, VB.vec (xs.length + 1) (catG xs.length (fun j => wtL (xs.getD j w0)) fun j => List.take (4) (List.drop (j * (4)) [I w.flo, I w.fhi, I (w.wlo + quoZ (mP heat).hlo w.fhi), I (w.whi + quoZ ((mP heat).hhi + w.flo - (1 : Int)) w.flo)])) (4) 25]
 else bif decide (w.fhi > (1073741824 : Int)) then
 X VEx.ret [I i, I (k + (1 : Int)), I ((↑n : Int) + (1 : Int)), VV.yld 15, VV.ptr (VA.own 6 0), VV.ptr (VA.own 7 0), VV.ptr (VA.own 8 0)] [ptsA n l, VB.cells [I f.flo, I f.fhi, I f.wlo, I f.whi] (25 : TypeId), VB.cells [VV.slice (VA.el 0 [] (0 : Int) 0) n cap] (26 : TypeId), VB.cells [I at'] (3 : TypeId), VB.cells [I lim] (3 : TypeId), VB.cells [I (mP heat).k, I (mP heat).flo, I (mP heat).fhi, I (mP heat).wlo, I (mP heat).whi, I (mP heat).hlo, I (mP heat).hhi, I (mP heat).slo, I (mP heat).shi] (47 : TypeId), VB.cells [VV.slice (VA.el 0 [] (0 : Int) 0) n cap] (26 : TypeId), VB.cells [I at'] (3 : TypeId), VB.cells [VV.ptr (VA.own 5 0)] (78 : TypeId), VB.cells [VV.nils] (29 : TypeId), VB.cells [I (k + (1 : Int))] (3 : TypeId), VB.cells [I 12] (30 : TypeId), VB.cells [I w.flo, I w.fhi, I (mD (w.wlo + quoZ (mP heat).hlo w.fhi) ((10000 : Int) - (l ((0 : Int) + i)).shi) (l ((0 : Int) + i)).wlo (l ((0 : Int) + i)).shi), I (mU (w.whi + quoZ ((mP heat).hhi + w.flo - (1 : Int)) w.flo) ((10000 : Int) - (l ((0 : Int) + i)).slo) (l ((0 : Int) + i)).whi (l ((0 : Int) + i)).slo)] (89 : TypeId), VB.cells [VV.ptr (VA.own 13 0)] (87 : TypeId), VB.loop false (some VEx.ret) (slG f) 67 [15, 16] as35 bd35, VB.vec (xs.length + 1) (catG xs.length (fun j => wtL (xs.getD j w0)) fun j => List.take (4) (List.drop (j * (4)) [I w.flo, I w.fhi, I (w.wlo + quoZ (mP heat).hlo w.fhi), I (w.whi + quoZ ((mP heat).hhi + w.flo - (1 : Int)) w.flo)])) (4) 25]
 else bif decide (mU (w.whi + quoZ ((mP heat).hhi + w.flo - (1 : Int)) w.flo) ((10000 : Int) - (l ((0 : Int) + i)).slo) (l ((0 : Int) + i)).whi (l ((0 : Int) + i)).slo > (100000 : Int)) then
 X VEx.ret [I i, I (k + (1 : Int)), I ((↑n : Int) + (1 : Int)), VV.yld 15, VV.ptr (VA.own 6 0), VV.ptr (VA.own 7 0), VV.ptr (VA.own 8 0)] [ptsA n l, VB.cells [I f.flo, I f.fhi, I f.wlo, I f.whi] (25 : TypeId), VB.cells [VV.slice (VA.el 0 [] (0 : Int) 0) n cap] (26 : TypeId), VB.cells [I at'] (3 : TypeId), VB.cells [I lim] (3 : TypeId), VB.cells [I (mP heat).k, I (mP heat).flo, I (mP heat).fhi, I (mP heat).wlo, I (mP heat).whi, I (mP heat).hlo, I (mP heat).hhi, I (mP heat).slo, I (mP heat).shi] (47 : TypeId), VB.cells [VV.slice (VA.el 0 [] (0 : Int) 0) n cap] (26 : TypeId), VB.cells [I at'] (3 : TypeId), VB.cells [VV.ptr (VA.own 5 0)] (78 : TypeId), VB.cells [VV.nils] (29 : TypeId), VB.cells [I (k + (1 : Int))] (3 : TypeId), VB.cells [I 12] (30 : TypeId), VB.cells [I w.flo, I w.fhi, I (mD (w.wlo + quoZ (mP heat).hlo w.fhi) ((10000 : Int) - (l ((0 : Int) + i)).shi) (l ((0 : Int) + i)).wlo (l ((0 : Int) + i)).shi), I (mU (w.whi + quoZ ((mP heat).hhi + w.flo - (1 : Int)) w.flo) ((10000 : Int) - (l ((0 : Int) + i)).slo) (l ((0 : Int) + i)).whi (l ((0 : Int) + i)).slo)] (89 : TypeId), VB.cells [VV.ptr (VA.own 13 0)] (87 : TypeId), VB.loop false (some VEx.ret) (slG f) 67 [15, 16] as35 bd35, VB.vec (xs.length + 1) (catG xs.length (fun j => wtL (xs.getD j w0)) fun j => List.take (4) (List.drop (j * (4)) [I w.flo, I w.fhi, I (w.wlo + quoZ (mP heat).hlo w.fhi), I (w.whi + quoZ ((mP heat).hhi + w.flo - (1 : Int)) w.flo)])) (4) 25]
 else bif (xs.length + 1).beq (xs.length + 1) then
 bif roomB (xs.length + 1 + 1) (32) then
 bif inK IntKind.i64 (k + (1 : Int) + (1 : Int)) then
 bif inK IntKind.i64 (i + (1 : Int)) then
 X VEx.normal [I (i + (1 : Int)), I (k + (1 : Int) + (1 : Int)), I ((↑n : Int) + (1 : Int)), VV.yld 15, VV.ptr (VA.own 6 0), VV.ptr (VA.own 7 0), VV.ptr (VA.own 8 0)] [ptsA n l, VB.cells [I f.flo, I f.fhi, I f.wlo, I f.whi] (25 : TypeId), VB.cells [VV.slice (VA.el 0 [] (0 : Int) 0) n cap] (26 : TypeId), VB.cells [I at'] (3 : TypeId), VB.cells [I lim] (3 : TypeId), VB.cells [I (mP heat).k, I (mP heat).flo, I (mP heat).fhi, I (mP heat).wlo, I (mP heat).whi, I (mP heat).hlo, I (mP heat).hhi, I (mP heat).slo, I (mP heat).shi] (47 : TypeId), VB.cells [VV.slice (VA.el 0 [] (0 : Int) 0) n cap] (26 : TypeId), VB.cells [I at'] (3 : TypeId), VB.cells [VV.ptr (VA.own 5 0)] (78 : TypeId), VB.cells [VV.sl 16 (xs.length + 1 + 1)] (29 : TypeId), VB.cells [I 0] (3 : TypeId), VB.cells [I 0] (30 : TypeId), VB.cells [I w.flo, I w.fhi, I (mD (w.wlo + quoZ (mP heat).hlo w.fhi) ((10000 : Int) - (l ((0 : Int) + i)).shi) (l ((0 : Int) + i)).wlo (l ((0 : Int) + i)).shi), I (mU (w.whi + quoZ ((mP heat).hhi + w.flo - (1 : Int)) w.flo) ((10000 : Int) - (l ((0 : Int) + i)).slo) (l ((0 : Int) + i)).whi (l ((0 : Int) + i)).slo)] (89 : TypeId), VB.cells [VV.ptr (VA.own 13 0)] (87 : TypeId), VB.loop true none (slG f) 67 [15, 16] as35 bd35, VB.vec (xs.length + 1 + 1) (catG (xs.length + 1) (catG xs.length (fun j => wtL (xs.getD j w0)) fun j => List.take (4) (List.drop (j * (4)) [I w.flo, I w.fhi, I (w.wlo + quoZ (mP heat).hlo w.fhi), I (w.whi + quoZ ((mP heat).hhi + w.flo - (1 : Int)) w.flo)])) fun j => List.take (4) (List.drop (j * (4)) [I w.flo, I w.fhi, I (mD (w.wlo + quoZ (mP heat).hlo w.fhi) ((10000 : Int) - (l ((0 : Int) + i)).shi) (l ((0 : Int) + i)).wlo (l ((0 : Int) + i)).shi), I (mU (w.whi + quoZ ((mP heat).hhi + w.flo - (1 : Int)) w.flo) ((10000 : Int) - (l ((0 : Int) + i)).slo) (l ((0 : Int) + i)).whi (l ((0 : Int) + i)).slo)])) (4) 25]
 else False
 else False
 else False
 else False
 else False
 else False
 else bif inK IntKind.i64 ((10000 : Int) - (l ((0 : Int) + i)).shi) then
 meanOk (w.wlo + quoZ (mP heat).hlo w.fhi) ((10000 : Int) - (l ((0 : Int) + i)).shi) (l ((0 : Int) + i)).wlo (l ((0 : Int) + i)).shi ∧ bif inK IntKind.i64 ((10000 : Int) - (l ((0 : Int) + i)).shi) then
 meanOk (w.whi + quoZ ((mP heat).hhi + w.flo - (1 : Int)) w.flo) ((10000 : Int) - (l ((0 : Int) + i)).shi) (l ((0 : Int) + i)).whi (l ((0 : Int) + i)).shi ∧ bif decide (w.flo < (1 : Int)) then
 X VEx.ret [I i, I (k + (1 : Int)), I ((↑n : Int) + (1 : Int)), VV.yld 15, VV.ptr (VA.own 6 0), VV.ptr (VA.own 7 0), VV.ptr (VA.own 8 0)] [ptsA n l, VB.cells [I f.flo, I f.fhi, I f.wlo, I f.whi] (25 : TypeId), VB.cells [VV.slice (VA.el 0 [] (0 : Int) 0) n cap] (26 : TypeId), VB.cells [I at'] (3 : TypeId), VB.cells [I lim] (3 : TypeId), VB.cells [I (mP heat).k, I (mP heat).flo, I (mP heat).fhi, I (mP heat).wlo, I (mP heat).whi, I (mP heat).hlo, I (mP heat).hhi, I (mP heat).slo, I (mP heat).shi] (47 : TypeId), VB.cells [VV.slice (VA.el 0 [] (0 : Int) 0) n cap] (26 : TypeId), VB.cells [I at'] (3 : TypeId), VB.cells [VV.ptr (VA.own 5 0)] (78 : TypeId), VB.cells [VV.nils] (29 : TypeId), VB.cells [I (k + (1 : Int))] (3 : TypeId), VB.cells [I 10] (30 : TypeId), VB.cells [I w.flo, I w.fhi, I (mD (w.wlo + quoZ (mP heat).hlo w.fhi) ((10000 : Int) - (l ((0 : Int) + i)).shi) (l ((0 : Int) + i)).wlo (l ((0 : Int) + i)).shi), I (mU (w.whi + quoZ ((mP heat).hhi + w.flo - (1 : Int)) w.flo) ((10000 : Int) - (l ((0 : Int) + i)).shi) (l ((0 : Int) + i)).whi (l ((0 : Int) + i)).shi)] (89 : TypeId), VB.cells [VV.ptr (VA.own 13 0)] (87 : TypeId), VB.loop false (some VEx.ret) (slG f) 67 [15, 16] as35 bd35, VB.vec (xs.length + 1) (catG xs.length (fun j => wtL (xs.getD j w0)) fun j => List.take (4) (List.drop (j * (4)) [I w.flo, I w.fhi, I (w.wlo + quoZ (mP heat).hlo w.fhi), I (w.whi + quoZ ((mP heat).hhi + w.flo - (1 : Int)) w.flo)])) (4) 25]
 else bif decide (w.fhi > (1073741824 : Int)) then
 X VEx.ret [I i, I (k + (1 : Int)), I ((↑n : Int) + (1 : Int)), VV.yld 15, VV.ptr (VA.own 6 0), VV.ptr (VA.own 7 0), VV.ptr (VA.own 8 0)] [ptsA n l, VB.cells [I f.flo, I f.fhi, I f.wlo, I f.whi] (25 : TypeId), VB.cells [VV.slice (VA.el 0 [] (0 : Int) 0) n cap] (26 : TypeId), VB.cells [I at'] (3 : TypeId), VB.cells [I lim] (3 : TypeId), VB.cells [I (mP heat).k, I (mP heat).flo, I (mP heat).fhi, I (mP heat).wlo, I (mP heat).whi, I (mP heat).hlo, I (mP heat).hhi, I (mP heat).slo, I (mP heat).shi] (47 : TypeId), VB.cells [VV.slice (VA.el 0 [] (0 : Int) 0) n cap] (26 : TypeId), VB.cells [I at'] (3 : TypeId), VB.cells [VV.ptr (VA.own 5 0)] (78 : TypeId), VB.cells [VV.nils] (29 : TypeId), VB.cells [I (k + (1 : Int))] (3 : TypeId), VB.cells [I 12] (30 : TypeId), VB.cells [I w.flo, I w.fhi, I (mD (w.wlo + quoZ (mP heat).hlo w.fhi) ((10000 : Int) - (l ((0 : Int) + i)).shi) (l ((0 : Int) + i)).wlo (l ((0 : Int) + i)).shi), I (mU (w.whi + quoZ ((mP heat).hhi + w.flo - (1 : Int)) w.flo) ((10000 : Int) - (l ((0 : Int) + i)).shi) (l ((0 : Int) + i)).whi (l ((0 : Int) + i)).shi)] (89 : TypeId), VB.cells [VV.ptr (VA.own 13 0)] (87 : TypeId), VB.loop false (some VEx.ret) (slG f) 67 [15, 16] as35 bd35, VB.vec (xs.length + 1) (catG xs.length (fun j => wtL (xs.getD j w0)) fun j => List.take (4) (List.drop (j * (4)) [I w.flo, I w.fhi, I (w.wlo + quoZ (mP heat).hlo w.fhi), I (w.whi + quoZ ((mP heat).hhi + w.flo - (1 : Int)) w.flo)])) (4) 25]
 else bif decide (mU (w.whi + quoZ ((mP heat).hhi + w.flo - (1 : Int)) w.flo) ((10000 : Int) - (l ((0 : Int) + i)).shi) (l ((0 : Int) + i)).whi (l ((0 : Int) + i)).shi > (100000 : Int)) then
 X VEx.ret [I i, I (k + (1 : Int)), I ((↑n : Int) + (1 : Int)), VV.yld 15, VV.ptr (VA.own 6 0), VV.ptr (VA.own 7 0), VV.ptr (VA.own 8 0)] [ptsA n l, VB.cells [I f.flo, I f.fhi, I f.wlo, I f.whi] (25 : TypeId), VB.cells [VV.slice (VA.el 0 [] (0 : Int) 0) n cap] (26 : TypeId), VB.cells [I at'] (3 : TypeId), VB.cells [I lim] (3 : TypeId), VB.cells [I (mP heat).k, I (mP heat).flo, I (mP heat).fhi, I (mP heat).wlo, I (mP heat).whi, I (mP heat).hlo, I (mP heat).hhi, I (mP heat).slo, I (mP heat).shi] (47 : TypeId), VB.cells [VV.slice (VA.el 0 [] (0 : Int) 0) n cap] (26 : TypeId), VB.cells [I at'] (3 : TypeId), VB.cells [VV.ptr (VA.own 5 0)] (78 : TypeId), VB.cells [VV.nils] (29 : TypeId), VB.cells [I (k + (1 : Int))] (3 : TypeId), VB.cells [I 12] (30 : TypeId), VB.cells [I w.flo, I w.fhi, I (mD (w.wlo + quoZ (mP heat).hlo w.fhi) ((10000 : Int) - (l ((0 : Int) + i)).shi) (l ((0 : Int) + i)).wlo (l ((0 : Int) + i)).shi), I (mU (w.whi + quoZ ((mP heat).hhi + w.flo - (1 : Int)) w.flo) ((10000 : Int) - (l ((0 : Int) + i)).shi) (l ((0 : Int) + i)).whi (l ((0 : Int) + i)).shi)] (89 : TypeId), VB.cells [VV.ptr (VA.own 13 0)] (87 : TypeId), VB.loop false (some VEx.ret) (slG f) 67 [15, 16] as35 bd35, VB.vec (xs.length + 1) (catG xs.length (fun j => wtL (xs.getD j w0)) fun j => List.take (4) (List.drop (j * (4)) [I w.flo, I w.fhi, I (w.wlo + quoZ (mP heat).hlo w.fhi), I (w.whi + quoZ ((mP heat).hhi + w.flo - (1 : Int)) w.flo)])) (4) 25]
 else bif (xs.length + 1).beq (xs.length + 1) then
 bif roomB (xs.length + 1 + 1) (32) then
 bif inK IntKind.i64 (k + (1 : Int) + (1 : Int)) then
 bif inK IntKind.i64 (i + (1 : Int)) then
 X VEx.normal [I (i + (1 : Int)), I (k + (1 : Int) + (1 : Int)), I ((↑n : Int) + (1 : Int)), VV.yld 15, VV.ptr (VA.own 6 0), VV.ptr (VA.own 7 0), VV.ptr (VA.own 8 0)] [ptsA n l, VB.cells [I f.flo, I f.fhi, I f.wlo, I f.whi] (25 : TypeId), VB.cells [VV.slice (VA.el 0 [] (0 : Int) 0) n cap] (26 : TypeId), VB.cells [I at'] (3 : TypeId), VB.cells [I lim] (3 : TypeId), VB.cells [I (mP heat).k, I (mP heat).flo, I (mP heat).fhi, I (mP heat).wlo, I (mP heat).whi, I (mP heat).hlo, I (mP heat).hhi, I (mP heat).slo, I (mP heat).shi] (47 : TypeId), VB.cells [VV.slice (VA.el 0 [] (0 : Int) 0) n cap] (26 : TypeId), VB.cells [I at'] (3 : TypeId), VB.cells [VV.ptr (VA.own 5 0)] (78 : TypeId), VB.cells [VV.sl 16 (xs.length + 1 + 1)] (29 : TypeId), VB.cells [I 0] (3 : TypeId), VB.cells [I 0] (30 : TypeId), VB.cells [I w.flo, I w.fhi, I (mD (w.wlo + quoZ (mP heat).hlo w.fhi) ((10000 : Int) - (l ((0 : Int) + i)).shi) (l ((0 : Int) + i)).wlo (l ((0 : Int) + i)).shi), I (mU (w.whi + quoZ ((mP heat).hhi + w.flo - (1 : Int)) w.flo) ((10000 : Int) - (l ((0 : Int) + i)).shi) (l ((0 : Int) + i)).whi (l ((0 : Int) + i)).shi)] (89 : TypeId), VB.cells [VV.ptr (VA.own 13 0)] (87 : TypeId), VB.loop true none (slG f) 67 [15, 16] as35 bd35, VB.vec (xs.length + 1 + 1) (catG (xs.length + 1) (catG xs.length (fun j => wtL (xs.getD j w0)) fun j => List.take (4) (List.drop (j * (4)) [I w.flo, I w.fhi, I (w.wlo + quoZ (mP heat).hlo w.fhi), I (w.whi + quoZ ((mP heat).hhi + w.flo - (1 : Int)) w.flo)])) fun j => List.take (4) (List.drop (j * (4)) [I w.flo, I w.fhi, I (mD (w.wlo + quoZ (mP heat).hlo w.fhi) ((10000 : Int) - (l ((0 : Int) + i)).shi) (l ((0 : Int) + i)).wlo (l ((0 : Int) + i)).shi), I (mU (w.whi + quoZ ((mP heat).hhi + w.flo - (1 : Int)) w.flo) ((10000 : Int) - (l ((0 : Int) + i)).shi) (l ((0 : Int) + i)).whi (l ((0 : Int) + i)).shi)])) (4) 25]
 else False
 else False
 else False
 else False
 else False
 else False
 else bif decide (w.whi + quoZ ((mP heat).hhi + w.flo - (1 : Int)) w.flo > (l ((0 : Int) + i)).whi) then
 bif inK IntKind.i64 ((10000 : Int) - (l ((0 : Int) + i)).slo) then
 meanOk (w.wlo + quoZ (mP heat).hlo w.fhi) ((10000 : Int) - (l ((0 : Int) + i)).slo) (l ((0 : Int) + i)).wlo (l ((0 : Int) + i)).slo ∧ bif inK IntKind.i64 ((10000 : Int) - (l ((0 : Int) + i)).slo) then
 meanOk (w.whi + quoZ ((mP heat).hhi + w.flo - (1 : Int)) w.flo) ((10000 : Int) - (l ((0 : Int) + i)).slo) (l ((0 : Int) + i)).whi (l ((0 : Int) + i)).slo ∧ bif decide (w.flo < (1 : Int)) then
 X VEx.ret [I i, I (k + (1 : Int)), I ((↑n : Int) + (1 : Int)), VV.yld 15, VV.ptr (VA.own 6 0), VV.ptr (VA.own 7 0), VV.ptr (VA.own 8 0)] [ptsA n l, VB.cells [I f.flo, I f.fhi, I f.wlo, I f.whi] (25 : TypeId), VB.cells [VV.slice (VA.el 0 [] (0 : Int) 0) n cap] (26 : TypeId), VB.cells [I at'] (3 : TypeId), VB.cells [I lim] (3 : TypeId), VB.cells [I (mP heat).k, I (mP heat).flo, I (mP heat).fhi, I (mP heat).wlo, I (mP heat).whi, I (mP heat).hlo, I (mP heat).hhi, I (mP heat).slo, I (mP heat).shi] (47 : TypeId), VB.cells [VV.slice (VA.el 0 [] (0 : Int) 0) n cap] (26 : TypeId), VB.cells [I at'] (3 : TypeId), VB.cells [VV.ptr (VA.own 5 0)] (78 : TypeId), VB.cells [VV.nils] (29 : TypeId), VB.cells [I (k + (1 : Int))] (3 : TypeId), VB.cells [I 10] (30 : TypeId), VB.cells [I w.flo, I w.fhi, I (mD (w.wlo + quoZ (mP heat).hlo w.fhi) ((10000 : Int) - (l ((0 : Int) + i)).slo) (l ((0 : Int) + i)).wlo (l ((0 : Int) + i)).slo), I (mU (w.whi + quoZ ((mP heat).hhi + w.flo - (1 : Int)) w.flo) ((10000 : Int) - (l ((0 : Int) + i)).slo) (l ((0 : Int) + i)).whi (l ((0 : Int) + i)).slo)] (89 : TypeId), VB.cells [VV.ptr (VA.own 13 0)] (87 : TypeId), VB.loop false (some VEx.ret) (slG f) 67 [15, 16] as35 bd35, VB.vec (xs.length + 1) (catG xs.length (fun j => wtL (xs.getD j w0)) fun j => List.take (4) (List.drop (j * (4)) [I w.flo, I w.fhi, I (w.wlo + quoZ (mP heat).hlo w.fhi), I (w.whi + quoZ ((mP heat).hhi + w.flo - (1 : Int)) w.flo)])) (4) 25]
 else bif decide (w.fhi > (1073741824 : Int)) then
 X VEx.ret [I i, I (k + (1 : Int)), I ((↑n : Int) + (1 : Int)), VV.yld 15, VV.ptr (VA.own 6 0), VV.ptr (VA.own 7 0), VV.ptr (VA.own 8 0)] [ptsA n l, VB.cells [I f.flo, I f.fhi, I f.wlo, I f.whi] (25 : TypeId), VB.cells [VV.slice (VA.el 0 [] (0 : Int) 0) n cap] (26 : TypeId), VB.cells [I at'] (3 : TypeId), VB.cells [I lim] (3 : TypeId), VB.cells [I (mP heat).k, I (mP heat).flo, I (mP heat).fhi, I (mP heat).wlo, I (mP heat).whi, I (mP heat).hlo, I (mP heat).hhi, I (mP heat).slo, I (mP heat).shi] (47 : TypeId), VB.cells [VV.slice (VA.el 0 [] (0 : Int) 0) n cap] (26 : TypeId), VB.cells [I at'] (3 : TypeId), VB.cells [VV.ptr (VA.own 5 0)] (78 : TypeId), VB.cells [VV.nils] (29 : TypeId), VB.cells [I (k + (1 : Int))] (3 : TypeId), VB.cells [I 12] (30 : TypeId), VB.cells [I w.flo, I w.fhi, I (mD (w.wlo + quoZ (mP heat).hlo w.fhi) ((10000 : Int) - (l ((0 : Int) + i)).slo) (l ((0 : Int) + i)).wlo (l ((0 : Int) + i)).slo), I (mU (w.whi + quoZ ((mP heat).hhi + w.flo - (1 : Int)) w.flo) ((10000 : Int) - (l ((0 : Int) + i)).slo) (l ((0 : Int) + i)).whi (l ((0 : Int) + i)).slo)] (89 : TypeId), VB.cells [VV.ptr (VA.own 13 0)] (87 : TypeId), VB.loop false (some VEx.ret) (slG f) 67 [15, 16] as35 bd35, VB.vec (xs.length + 1) (catG xs.length (fun j => wtL (xs.getD j w0)) fun j => List.take (4) (List.drop (j * (4)) [I w.flo, I w.fhi, I (w.wlo + quoZ (mP heat).hlo w.fhi), I (w.whi + quoZ ((mP heat).hhi + w.flo - (1 : Int)) w.flo)])) (4) 25]
 else bif decide (mU (w.whi + quoZ ((mP heat).hhi + w.flo - (1 : Int)) w.flo) ((10000 : Int) - (l ((0 : Int) + i)).slo) (l ((0 : Int) + i)).whi (l ((0 : Int) + i)).slo > (100000 : Int)) then
 X VEx.ret [I i, I (k + (1 : Int)), I ((↑n : Int) + (1 : Int)), VV.yld 15, VV.ptr (VA.own 6 0), VV.ptr (VA.own 7 0), VV.ptr (VA.own 8 0)] [ptsA n l, VB.cells [I f.flo, I f.fhi, I f.wlo, I f.whi] (25 : TypeId), VB.cells [VV.slice (VA.el 0 [] (0 : Int) 0) n cap] (26 : TypeId), VB.cells [I at'] (3 : TypeId), VB.cells [I lim] (3 : TypeId), VB.cells [I (mP heat).k, I (mP heat).flo, I (mP heat).fhi, I (mP heat).wlo, I (mP heat).whi, I (mP heat).hlo, I (mP heat).hhi, I (mP heat).slo, I (mP heat).shi] (47 : TypeId), VB.cells [VV.slice (VA.el 0 [] (0 : Int) 0) n cap] (26 : TypeId), VB.cells [I at'] (3 : TypeId), VB.cells [VV.ptr (VA.own 5 0)] (78 : TypeId), VB.cells [VV.nils] (29 : TypeId), VB.cells [I (k + (1 : Int))] (3 : TypeId), VB.cells [I 12] (30 : TypeId), VB.cells [I w.flo, I w.fhi, I (mD (w.wlo + quoZ (mP heat).hlo w.fhi) ((10000 : Int) - (l ((0 : Int) + i)).slo) (l ((0 : Int) + i)).wlo (l ((0 : Int) + i)).slo), I (mU (w.whi + quoZ ((mP heat).hhi + w.flo - (1 : Int)) w.flo) ((10000 : Int) - (l ((0 : Int) + i)).slo) (l ((0 : Int) + i)).whi (l ((0 : Int) + i)).slo)] (89 : TypeId), VB.cells [VV.ptr (VA.own 13 0)] (87 : TypeId), VB.loop false (some VEx.ret) (slG f) 67 [15, 16] as35 bd35, VB.vec (xs.length + 1) (catG xs.length (fun j => wtL (xs.getD j w0)) fun j => List.take (4) (List.drop (j * (4)) [I w.flo, I w.fhi, I (w.wlo + quoZ (mP heat).hlo w.fhi), I (w.whi + quoZ ((mP heat).hhi + w.flo - (1 : Int)) w.flo)])) (4) 25]
 else bif (xs.length + 1).beq (xs.length + 1) then
 bif roomB (xs.length + 1 + 1) (32) then
 bif inK IntKind.i64 (k + (1 : Int) + (1 : Int)) then
 bif inK IntKind.i64 (i + (1 : Int)) then
 X VEx.normal [I (i + (1 : Int)), I (k + (1 : Int) + (1 : Int)), I ((↑n : Int) + (1 : Int)), VV.yld 15, VV.ptr (VA.own 6 0), VV.ptr (VA.own 7 0), VV.ptr (VA.own 8 0)] [ptsA n l, VB.cells [I f.flo, I f.fhi, I f.wlo, I f.whi] (25 : TypeId), VB.cells [VV.slice (VA.el 0 [] (0 : Int) 0) n cap] (26 : TypeId), VB.cells [I at'] (3 : TypeId), VB.cells [I lim] (3 : TypeId), VB.cells [I (mP heat).k, I (mP heat).flo, I (mP heat).fhi, I (mP heat).wlo, I (mP heat).whi, I (mP heat).hlo, I (mP heat).hhi, I (mP heat).slo, I (mP heat).shi] (47 : TypeId), VB.cells [VV.slice (VA.el 0 [] (0 : Int) 0) n cap] (26 : TypeId), VB.cells [I at'] (3 : TypeId), VB.cells [VV.ptr (VA.own 5 0)] (78 : TypeId), VB.cells [VV.sl 16 (xs.length + 1 + 1)] (29 : TypeId), VB.cells [I 0] (3 : TypeId), VB.cells [I 0] (30 : TypeId), VB.cells [I w.flo, I w.fhi, I (mD (w.wlo + quoZ (mP heat).hlo w.fhi) ((10000 : Int) - (l ((0 : Int) + i)).slo) (l ((0 : Int) + i)).wlo (l ((0 : Int) + i)).slo), I (mU (w.whi + quoZ ((mP heat).hhi + w.flo - (1 : Int)) w.flo) ((10000 : Int) - (l ((0 : Int) + i)).slo) (l ((0 : Int) + i)).whi (l ((0 : Int) + i)).slo)] (89 : TypeId), VB.cells [VV.ptr (VA.own 13 0)] (87 : TypeId), VB.loop true none (slG f) 67 [15, 16] as35 bd35, VB.vec (xs.length + 1 + 1) (catG (xs.length + 1) (catG xs.length (fun j => wtL (xs.getD j w0)) fun j => List.take (4) (List.drop (j * (4)) [I w.flo, I w.fhi, I (w.wlo + quoZ (mP heat).hlo w.fhi), I (w.whi + quoZ ((mP heat).hhi + w.flo - (1 : Int)) w.flo)])) fun j => List.take (4) (List.drop (j * (4)) [I w.flo, I w.fhi, I (mD (w.wlo + quoZ (mP heat).hlo w.fhi) ((10000 : Int) - (l ((0 : Int) + i)).slo) (l ((0 : Int) + i)).wlo (l ((0 : Int) + i)).slo), I (mU (w.whi + quoZ ((mP heat).hhi + w.flo - (1 : Int)) w.flo) ((10000 : Int) - (l ((0 : Int) + i)).slo) (l ((0 : Int) + i)).whi (l ((0 : Int) + i)).slo)])) (4) 25]
 else False
 else False
 else False
 else False
 else False
 else False
 else bif inK IntKind.i64 ((10000 : Int) - (l ((0 : Int) + i)).slo) then
 meanOk (w.wlo + quoZ (mP heat).hlo w.fhi) ((10000 : Int) - (l ((0 : Int) + i)).slo) (l ((0 : Int) + i)).wlo (l ((0 : Int) + i)).slo ∧ bif inK IntKind.i64 ((10000 : Int) - (l ((0 : Int) + i)).shi) then
 meanOk (w.whi + quoZ ((mP heat).hhi + w.flo - (1 : Int)) w.flo) ((10000 : Int) - (l ((0 : Int) + i)).shi) (l ((0 : Int) + i)).whi (l ((0 : Int) + i)).shi ∧ bif decide (w.flo < (1 : Int)) then
 X VEx.ret [I i, I (k + (1 : Int)), I ((↑n : Int) + (1 : Int)), VV.yld 15, VV.ptr (VA.own 6 0), VV.ptr (VA.own 7 0), VV.ptr (VA.own 8 0)] [ptsA n l, VB.cells [I f.flo, I f.fhi, I f.wlo, I f.whi] (25 : TypeId), VB.cells [VV.slice (VA.el 0 [] (0 : Int) 0) n cap] (26 : TypeId), VB.cells [I at'] (3 : TypeId), VB.cells [I lim] (3 : TypeId), VB.cells [I (mP heat).k, I (mP heat).flo, I (mP heat).fhi, I (mP heat).wlo, I (mP heat).whi, I (mP heat).hlo, I (mP heat).hhi, I (mP heat).slo, I (mP heat).shi] (47 : TypeId), VB.cells [VV.slice (VA.el 0 [] (0 : Int) 0) n cap] (26 : TypeId), VB.cells [I at'] (3 : TypeId), VB.cells [VV.ptr (VA.own 5 0)] (78 : TypeId), VB.cells [VV.nils] (29 : TypeId), VB.cells [I (k + (1 : Int))] (3 : TypeId), VB.cells [I 10] (30 : TypeId), VB.cells [I w.flo, I w.fhi, I (mD (w.wlo + quoZ (mP heat).hlo w.fhi) ((10000 : Int) - (l ((0 : Int) + i)).slo) (l ((0 : Int) + i)).wlo (l ((0 : Int) + i)).slo), I (mU (w.whi + quoZ ((mP heat).hhi + w.flo - (1 : Int)) w.flo) ((10000 : Int) - (l ((0 : Int) + i)).shi) (l ((0 : Int) + i)).whi (l ((0 : Int) + i)).shi)] (89 : TypeId), VB.cells [VV.ptr (VA.own 13 0)] (87 : TypeId), VB.loop false (some VEx.ret) (slG f) 67 [15, 16] as35 bd35, VB.vec (xs.length + 1) (catG xs.length (fun j => wtL (xs.getD j w0)) fun j => List.take (4) (List.drop (j * (4)) [I w.flo, I w.fhi, I (w.wlo + quoZ (mP heat).hlo w.fhi), I (w.whi + quoZ ((mP heat).hhi + w.flo - (1 : Int)) w.flo)])) (4) 25]
 else bif decide (w.fhi > (1073741824 : Int)) then
 X VEx.ret [I i, I (k + (1 : Int)), I ((↑n : Int) + (1 : Int)), VV.yld 15, VV.ptr (VA.own 6 0), VV.ptr (VA.own 7 0), VV.ptr (VA.own 8 0)] [ptsA n l, VB.cells [I f.flo, I f.fhi, I f.wlo, I f.whi] (25 : TypeId), VB.cells [VV.slice (VA.el 0 [] (0 : Int) 0) n cap] (26 : TypeId), VB.cells [I at'] (3 : TypeId), VB.cells [I lim] (3 : TypeId), VB.cells [I (mP heat).k, I (mP heat).flo, I (mP heat).fhi, I (mP heat).wlo, I (mP heat).whi, I (mP heat).hlo, I (mP heat).hhi, I (mP heat).slo, I (mP heat).shi] (47 : TypeId), VB.cells [VV.slice (VA.el 0 [] (0 : Int) 0) n cap] (26 : TypeId), VB.cells [I at'] (3 : TypeId), VB.cells [VV.ptr (VA.own 5 0)] (78 : TypeId), VB.cells [VV.nils] (29 : TypeId), VB.cells [I (k + (1 : Int))] (3 : TypeId), VB.cells [I 12] (30 : TypeId), VB.cells [I w.flo, I w.fhi, I (mD (w.wlo + quoZ (mP heat).hlo w.fhi) ((10000 : Int) - (l ((0 : Int) + i)).slo) (l ((0 : Int) + i)).wlo (l ((0 : Int) + i)).slo), I (mU (w.whi + quoZ ((mP heat).hhi + w.flo - (1 : Int)) w.flo) ((10000 : Int) - (l ((0 : Int) + i)).shi) (l ((0 : Int) + i)).whi (l ((0 : Int) + i)).shi)] (89 : TypeId), VB.cells [VV.ptr (VA.own 13 0)] (87 : TypeId), VB.loop false (some VEx.ret) (slG f) 67 [15, 16] as35 bd35, VB.vec (xs.length + 1) (catG xs.length (fun j => wtL (xs.getD j w0)) fun j => List.take (4) (List.drop (j * (4)) [I w.flo, I w.fhi, I (w.wlo + quoZ (mP heat).hlo w.fhi), I (w.whi + quoZ ((mP heat).hhi + w.flo - (1 : Int)) w.flo)])) (4) 25]
 else bif decide (mU (w.whi + quoZ ((mP heat).hhi + w.flo - (1 : Int)) w.flo) ((10000 : Int) - (l ((0 : Int) + i)).shi) (l ((0 : Int) + i)).whi (l ((0 : Int) + i)).shi > (100000 : Int)) then
 X VEx.ret [I i, I (k + (1 : Int)), I ((↑n : Int) + (1 : Int)), VV.yld 15, VV.ptr (VA.own 6 0), VV.ptr (VA.own 7 0), VV.ptr (VA.own 8 0)] [ptsA n l, VB.cells [I f.flo, I f.fhi, I f.wlo, I f.whi] (25 : TypeId), VB.cells [VV.slice (VA.el 0 [] (0 : Int) 0) n cap] (26 : TypeId), VB.cells [I at'] (3 : TypeId), VB.cells [I lim] (3 : TypeId), VB.cells [I (mP heat).k, I (mP heat).flo, I (mP heat).fhi, I (mP heat).wlo, I (mP heat).whi, I (mP heat).hlo, I (mP heat).hhi, I (mP heat).slo, I (mP heat).shi] (47 : TypeId), VB.cells [VV.slice (VA.el 0 [] (0 : Int) 0) n cap] (26 : TypeId), VB.cells [I at'] (3 : TypeId), VB.cells [VV.ptr (VA.own 5 0)] (78 : TypeId), VB.cells [VV.nils] (29 : TypeId), VB.cells [I (k + (1 : Int))] (3 : TypeId), VB.cells [I 12] (30 : TypeId), VB.cells [I w.flo, I w.fhi, I (mD (w.wlo + quoZ (mP heat).hlo w.fhi) ((10000 : Int) - (l ((0 : Int) + i)).slo) (l ((0 : Int) + i)).wlo (l ((0 : Int) + i)).slo), I (mU (w.whi + quoZ ((mP heat).hhi + w.flo - (1 : Int)) w.flo) ((10000 : Int) - (l ((0 : Int) + i)).shi) (l ((0 : Int) + i)).whi (l ((0 : Int) + i)).shi)] (89 : TypeId), VB.cells [VV.ptr (VA.own 13 0)] (87 : TypeId), VB.loop false (some VEx.ret) (slG f) 67 [15, 16] as35 bd35, VB.vec (xs.length + 1) (catG xs.length (fun j => wtL (xs.getD j w0)) fun j => List.take (4) (List.drop (j * (4)) [I w.flo, I w.fhi, I (w.wlo + quoZ (mP heat).hlo w.fhi), I (w.whi + quoZ ((mP heat).hhi + w.flo - (1 : Int)) w.flo)])) (4) 25]
 else bif (xs.length + 1).beq (xs.length + 1) then
 bif roomB (xs.length + 1 + 1) (32) then
 bif inK IntKind.i64 (k + (1 : Int) + (1 : Int)) then
 bif inK IntKind.i64 (i + (1 : Int)) then
 X VEx.normal [I (i + (1 : Int)), I (k + (1 : Int) + (1 : Int)), I ((↑n : Int) + (1 : Int)), VV.yld 15, VV.ptr (VA.own 6 0), VV.ptr (VA.own 7 0), VV.ptr (VA.own 8 0)] [ptsA n l, VB.cells [I f.flo, I f.fhi, I f.wlo, I f.whi] (25 : TypeId), VB.cells [VV.slice (VA.el 0 [] (0 : Int) 0) n cap] (26 : TypeId), VB.cells [I at'] (3 : TypeId), VB.cells [I lim] (3 : TypeId), VB.cells [I (mP heat).k, I (mP heat).flo, I (mP heat).fhi, I (mP heat).wlo, I (mP heat).whi, I (mP heat).hlo, I (mP heat).hhi, I (mP heat).slo, I (mP heat).shi] (47 : TypeId), VB.cells [VV.slice (VA.el 0 [] (0 : Int) 0) n cap] (26 : TypeId), VB.cells [I at'] (3 : TypeId), VB.cells [VV.ptr (VA.own 5 0)] (78 : TypeId), VB.cells [VV.sl 16 (xs.length + 1 + 1)] (29 : TypeId), VB.cells [I 0] (3 : TypeId), VB.cells [I 0] (30 : TypeId), VB.cells [I w.flo, I w.fhi, I (mD (w.wlo + quoZ (mP heat).hlo w.fhi) ((10000 : Int) - (l ((0 : Int) + i)).slo) (l ((0 : Int) + i)).wlo (l ((0 : Int) + i)).slo), I (mU (w.whi + quoZ ((mP heat).hhi + w.flo - (1 : Int)) w.flo) ((10000 : Int) - (l ((0 : Int) + i)).shi) (l ((0 : Int) + i)).whi (l ((0 : Int) + i)).shi)] (89 : TypeId), VB.cells [VV.ptr (VA.own 13 0)] (87 : TypeId), VB.loop true none (slG f) 67 [15, 16] as35 bd35, VB.vec (xs.length + 1 + 1) (catG (xs.length + 1) (catG xs.length (fun j => wtL (xs.getD j w0)) fun j => List.take (4) (List.drop (j * (4)) [I w.flo, I w.fhi, I (w.wlo + quoZ (mP heat).hlo w.fhi), I (w.whi + quoZ ((mP heat).hhi + w.flo - (1 : Int)) w.flo)])) fun j => List.take (4) (List.drop (j * (4)) [I w.flo, I w.fhi, I (mD (w.wlo + quoZ (mP heat).hlo w.fhi) ((10000 : Int) - (l ((0 : Int) + i)).slo) (l ((0 : Int) + i)).wlo (l ((0 : Int) + i)).slo), I (mU (w.whi + quoZ ((mP heat).hhi + w.flo - (1 : Int)) w.flo) ((10000 : Int) - (l ((0 : Int) + i)).shi) (l ((0 : Int) + i)).whi (l ((0 : Int) + i)).shi)])) (4) 25]
 else False
 else False
 else False
 else False
 else False
 else False
 else X VEx.ret [I i, I (k + (1 : Int)), I ((↑n : Int) + (1 : Int)), VV.yld 15, VV.ptr (VA.own 6 0), VV.ptr (VA.own 7 0), VV.ptr (VA.own 8 0)] [ptsA n l, VB.cells [I f.flo, I f.fhi, I f.wlo, I f.whi] (25 : TypeId), VB.cells [VV.slice (VA.el 0 [] (0 : Int) 0) n cap] (26 : TypeId), VB.cells [I at'] (3 : TypeId), VB.cells [I lim] (3 : TypeId), VB.cells [I (mP heat).k, I (mP heat).flo, I (mP heat).fhi, I (mP heat).wlo, I (mP heat).whi, I (mP heat).hlo, I (mP heat).hhi, I (mP heat).slo, I (mP heat).shi] (47 : TypeId), VB.cells [VV.slice (VA.el 0 [] (0 : Int) 0) n cap] (26 : TypeId), VB.cells [I at'] (3 : TypeId), VB.cells [VV.ptr (VA.own 5 0)] (78 : TypeId), VB.cells [VV.nils] (29 : TypeId), VB.cells [I (k + (1 : Int))] (3 : TypeId), VB.cells [I 1] (30 : TypeId), VB.cells [I w.flo, I w.fhi, I (w.wlo + quoZ (mP heat).hlo w.fhi), I (w.whi + quoZ ((mP heat).hhi + w.flo - (1 : Int)) w.flo)] (89 : TypeId), VB.cells [VV.ptr (VA.own 13 0)] (87 : TypeId), VB.loop false (some VEx.ret) (slG f) 67 [15, 16] as35 bd35, VB.vec (xs.length + 1) (catG xs.length (fun j => wtL (xs.getD j w0)) fun j => List.take (4) (List.drop (j * (4)) [I w.flo, I w.fhi, I (w.wlo + quoZ (mP heat).hlo w.fhi), I (w.whi + quoZ ((mP heat).hhi + w.flo - (1 : Int)) w.flo)])) (4) 25]
 else X VEx.ret [I i, I (k + (1 : Int)), I ((↑n : Int) + (1 : Int)), VV.yld 15, VV.ptr (VA.own 6 0), VV.ptr (VA.own 7 0), VV.ptr (VA.own 8 0)] [ptsA n l, VB.cells [I f.flo, I f.fhi, I f.wlo, I f.whi] (25 : TypeId), VB.cells [VV.slice (VA.el 0 [] (0 : Int) 0) n cap] (26 : TypeId), VB.cells [I at'] (3 : TypeId), VB.cells [I lim] (3 : TypeId), VB.cells [I (mP heat).k, I (mP heat).flo, I (mP heat).fhi, I (mP heat).wlo, I (mP heat).whi, I (mP heat).hlo, I (mP heat).hhi, I (mP heat).slo, I (mP heat).shi] (47 : TypeId), VB.cells [VV.slice (VA.el 0 [] (0 : Int) 0) n cap] (26 : TypeId), VB.cells [I at'] (3 : TypeId), VB.cells [VV.ptr (VA.own 5 0)] (78 : TypeId), VB.cells [VV.nils] (29 : TypeId), VB.cells [I (k + (1 : Int))] (3 : TypeId), VB.cells [I 1] (30 : TypeId), VB.cells [I w.flo, I w.fhi, I (w.wlo + quoZ (mP heat).hlo w.fhi), I (w.whi + quoZ ((mP heat).hhi + w.flo - (1 : Int)) w.flo)] (89 : TypeId), VB.cells [VV.ptr (VA.own 13 0)] (87 : TypeId), VB.loop false (some VEx.ret) (slG f) 67 [15, 16] as35 bd35, VB.vec (xs.length + 1) (catG xs.length (fun j => wtL (xs.getD j w0)) fun j => List.take (4) (List.drop (j * (4)) [I w.flo, I w.fhi, I (w.wlo + quoZ (mP heat).hlo w.fhi), I (w.whi + quoZ ((mP heat).hhi + w.flo - (1 : Int)) w.flo)])) (4) 25]
 else False
 else bif inK IntKind.i64 (i + (1 : Int)) then
 X VEx.normal [I (i + (1 : Int)), I (k + (1 : Int)), I ((↑n : Int) + (1 : Int)), VV.yld 15, VV.ptr (VA.own 6 0), VV.ptr (VA.own 7 0), VV.ptr (VA.own 8 0)] [ptsA n l, VB.cells [I f.flo, I f.fhi, I f.wlo, I f.whi] (25 : TypeId), VB.cells [VV.slice (VA.el 0 [] (0 : Int) 0) n cap] (26 : TypeId), VB.cells [I at'] (3 : TypeId), VB.cells [I lim] (3 : TypeId), VB.cells [I (mP heat).k, I (mP heat).flo, I (mP heat).fhi, I (mP heat).wlo, I (mP heat).whi, I (mP heat).hlo, I (mP heat).hhi, I (mP heat).slo, I (mP heat).shi] (47 : TypeId), VB.cells [VV.slice (VA.el 0 [] (0 : Int) 0) n cap] (26 : TypeId), VB.cells [I at'] (3 : TypeId), VB.cells [VV.ptr (VA.own 5 0)] (78 : TypeId), VB.cells [VV.sl 16 (xs.length + 1)] (29 : TypeId), VB.cells [I 0] (3 : TypeId), VB.cells [I 0] (30 : TypeId), VB.cells [I w.flo, I w.fhi, I (w.wlo + quoZ (mP heat).hlo w.fhi), I (w.whi + quoZ ((mP heat).hhi + w.flo - (1 : Int)) w.flo)] (89 : TypeId), VB.cells [VV.ptr (VA.own 13 0)] (87 : TypeId), VB.loop true none (slG f) 67 [15, 16] as35 bd35, VB.vec (xs.length + 1) (catG xs.length (fun j => wtL (xs.getD j w0)) fun j => List.take (4) (List.drop (j * (4)) [I w.flo, I w.fhi, I (w.wlo + quoZ (mP heat).hlo w.fhi), I (w.whi + quoZ ((mP heat).hhi + w.flo - (1 : Int)) w.flo)])) (4) 25]
 else False
 else False
 else False
 else False
 else False
 else False
 else False
 else bif decide (i < (↑n : Int)) then
 bif decide ((0 : Int) ≤ i ∧ i < (↑n : Int)) then
 (([] : List Int) = [] ∧ (0 : Int) ≤ (0 : Int) + i ∧ (0 : Int) + i < (↑n : Int)) ∧ bif decide ((l ((0 : Int) + i)).k = (0 : Int)) then
 bif spanB (l ((0 : Int) + i)).flo (l ((0 : Int) + i)).fhi (1 : Int) (1073741824 : Int) then
 bif !spanB (l ((0 : Int) + i)).wlo (l ((0 : Int) + i)).whi (0 : Int) (100000 : Int) then
 X VEx.ret [I i, I k, I ((↑n : Int) + (1 : Int)), VV.yld 15, VV.ptr (VA.own 6 0), VV.ptr (VA.own 7 0), VV.ptr (VA.own 8 0)] [ptsA n l, VB.cells [I f.flo, I f.fhi, I f.wlo, I f.whi] (25 : TypeId), VB.cells [VV.slice (VA.el 0 [] (0 : Int) 0) n cap] (26 : TypeId), VB.cells [I at'] (3 : TypeId), VB.cells [I lim] (3 : TypeId), VB.cells [I (mP heat).k, I (mP heat).flo, I (mP heat).fhi, I (mP heat).wlo, I (mP heat).whi, I (mP heat).hlo, I (mP heat).hhi, I (mP heat).slo, I (mP heat).shi] (47 : TypeId), VB.cells [VV.slice (VA.el 0 [] (0 : Int) 0) n cap] (26 : TypeId), VB.cells [I at'] (3 : TypeId), VB.cells [VV.ptr (VA.own 5 0)] (78 : TypeId), VB.cells [VV.nils] (29 : TypeId), VB.cells [I k] (3 : TypeId), VB.cells [I 1] (30 : TypeId), VB.cells [I w.flo, I w.fhi, I w.wlo, I w.whi] (89 : TypeId), VB.cells [VV.ptr (VA.own 13 0)] (87 : TypeId), VB.loop false (some VEx.ret) (slG f) 67 [15, 16] as35 bd35, VB.vec xs.length (fun j => wtL (xs.getD j w0)) 4 (25 : TypeId)]
 else bif decide ((l ((0 : Int) + i)).wlo < w.wlo) then
 bif decide ((l ((0 : Int) + i)).whi < w.whi) then
 meanOk w.wlo w.flo (l ((0 : Int) + i)).wlo (l ((0 : Int) + i)).fhi ∧ meanOk w.whi w.fhi (l ((0 : Int) + i)).whi (l ((0 : Int) + i)).flo ∧ bif inK IntKind.i64 (w.flo + (l ((0 : Int) + i)).flo) then
 bif inK IntKind.i64 (w.fhi + (l ((0 : Int) + i)).fhi) then
 bif decide (w.flo + (l ((0 : Int) + i)).flo < (1 : Int)) then
 X VEx.ret [I i, I k, I ((↑n : Int) + (1 : Int)), VV.yld 15, VV.ptr (VA.own 6 0), VV.ptr (VA.own 7 0), VV.ptr (VA.own 8 0)] [ptsA n l, VB.cells [I f.flo, I f.fhi, I f.wlo, I f.whi] (25 : TypeId), VB.cells [VV.slice (VA.el 0 [] (0 : Int) 0) n cap] (26 : TypeId), VB.cells [I at'] (3 : TypeId), VB.cells [I lim] (3 : TypeId), VB.cells [I (mP heat).k, I (mP heat).flo, I (mP heat).fhi, I (mP heat).wlo, I (mP heat).whi, I (mP heat).hlo, I (mP heat).hhi, I (mP heat).slo, I (mP heat).shi] (47 : TypeId), VB.cells [VV.slice (VA.el 0 [] (0 : Int) 0) n cap] (26 : TypeId), VB.cells [I at'] (3 : TypeId), VB.cells [VV.ptr (VA.own 5 0)] (78 : TypeId), VB.cells [VV.nils] (29 : TypeId), VB.cells [I k] (3 : TypeId), VB.cells [I 10] (30 : TypeId), VB.cells [I (w.flo + (l ((0 : Int) + i)).flo), I (w.fhi + (l ((0 : Int) + i)).fhi), I (mD w.wlo w.flo (l ((0 : Int) + i)).wlo (l ((0 : Int) + i)).fhi), I (mU w.whi w.fhi (l ((0 : Int) + i)).whi (l ((0 : Int) + i)).flo)] (89 : TypeId), VB.cells [VV.ptr (VA.own 13 0)] (87 : TypeId), VB.loop false (some VEx.ret) (slG f) 67 [15, 16] as35 bd35, VB.vec xs.length (fun j => wtL (xs.getD j w0)) 4 (25 : TypeId)]
 else bif decide (w.fhi + (l ((0 : Int) + i)).fhi > (1073741824 : Int)) then
 X VEx.ret [I i, I k, I ((↑n : Int) + (1 : Int)), VV.yld 15, VV.ptr (VA.own 6 0), VV.ptr (VA.own 7 0), VV.ptr (VA.own 8 0)] [ptsA n l, VB.cells [I f.flo, I f.fhi, I f.wlo, I f.whi] (25 : TypeId), VB.cells [VV.slice (VA.el 0 [] (0 : Int) 0) n cap] (26 : TypeId), VB.cells [I at'] (3 : TypeId), VB.cells [I lim] (3 : TypeId), VB.cells [I (mP heat).k, I (mP heat).flo, I (mP heat).fhi, I (mP heat).wlo, I (mP heat).whi, I (mP heat).hlo, I (mP heat).hhi, I (mP heat).slo, I (mP heat).shi] (47 : TypeId), VB.cells [VV.slice (VA.el 0 [] (0 : Int) 0) n cap] (26 : TypeId), VB.cells [I at'] (3 : TypeId), VB.cells [VV.ptr (VA.own 5 0)] (78 : TypeId), VB.cells [VV.nils] (29 : TypeId), VB.cells [I k] (3 : TypeId), VB.cells [I 12] (30 : TypeId), VB.cells [I (w.flo + (l ((0 : Int) + i)).flo), I (w.fhi + (l ((0 : Int) + i)).fhi), I (mD w.wlo w.flo (l ((0 : Int) + i)).wlo (l ((0 : Int) + i)).fhi), I (mU w.whi w.fhi (l ((0 : Int) + i)).whi (l ((0 : Int) + i)).flo)] (89 : TypeId), VB.cells [VV.ptr (VA.own 13 0)] (87 : TypeId), VB.loop false (some VEx.ret) (slG f) 67 [15, 16] as35 bd35, VB.vec xs.length (fun j => wtL (xs.getD j w0)) 4 (25 : TypeId)]
 else bif decide (mU w.whi w.fhi (l ((0 : Int) + i)).whi (l ((0 : Int) + i)).flo > (100000 : Int)) then
 X VEx.ret [I i, I k, I ((↑n : Int) + (1 : Int)), VV.yld 15, VV.ptr (VA.own 6 0), VV.ptr (VA.own 7 0), VV.ptr (VA.own 8 0)] [ptsA n l, VB.cells [I f.flo, I f.fhi, I f.wlo, I f.whi] (25 : TypeId), VB.cells [VV.slice (VA.el 0 [] (0 : Int) 0) n cap] (26 : TypeId), VB.cells [I at'] (3 : TypeId), VB.cells [I lim] (3 : TypeId), VB.cells [I (mP heat).k, I (mP heat).flo, I (mP heat).fhi, I (mP heat).wlo, I (mP heat).whi, I (mP heat).hlo, I (mP heat).hhi, I (mP heat).slo, I (mP heat).shi] (47 : TypeId), VB.cells [VV.slice (VA.el 0 [] (0 : Int) 0) n cap] (26 : TypeId), VB.cells [I at'] (3 : TypeId), VB.cells [VV.ptr (VA.own 5 0)] (78 : TypeId), VB.cells [VV.nils] (29 : TypeId), VB.cells [I k] (3 : TypeId), VB.cells [I 12] (30 : TypeId), VB.cells [I (w.flo + (l ((0 : Int) + i)).flo), I (w.fhi + (l ((0 : Int) + i)).fhi), I (mD w.wlo w.flo (l ((0 : Int) + i)).wlo (l ((0 : Int) + i)).fhi), I (mU w.whi w.fhi (l ((0 : Int) + i)).whi (l ((0 : Int) + i)).flo)] (89 : TypeId), VB.cells [VV.ptr (VA.own 13 0)] (87 : TypeId), VB.loop false (some VEx.ret) (slG f) 67 [15, 16] as35 bd35, VB.vec xs.length (fun j => wtL (xs.getD j w0)) 4 (25 : TypeId)]
 else bif xs.length.beq xs.length then
 bif roomB (xs.length + 1) (32) then
 bif inK IntKind.i64 (k + (1 : Int)) then
 bif inK IntKind.i64 (i + (1 : Int)) then
 X VEx.normal [I (i + (1 : Int)), I (k + (1 : Int)), I ((↑n : Int) + (1 : Int)), VV.yld 15, VV.ptr (VA.own 6 0), VV.ptr (VA.own 7 0), VV.ptr (VA.own 8 0)] [ptsA n l, VB.cells [I f.flo, I f.fhi, I f.wlo, I f.whi] (25 : TypeId), VB.cells [VV.slice (VA.el 0 [] (0 : Int) 0) n cap] (26 : TypeId), VB.cells [I at'] (3 : TypeId), VB.cells [I lim] (3 : TypeId), VB.cells [I (mP heat).k, I (mP heat).flo, I (mP heat).fhi, I (mP heat).wlo, I (mP heat).whi, I (mP heat).hlo, I (mP heat).hhi, I (mP heat).slo, I (mP heat).shi] (47 : TypeId), VB.cells [VV.slice (VA.el 0 [] (0 : Int) 0) n cap] (26 : TypeId), VB.cells [I at'] (3 : TypeId), VB.cells [VV.ptr (VA.own 5 0)] (78 : TypeId), VB.cells [VV.sl 16 (xs.length + 1)] (29 : TypeId), VB.cells [I 0] (3 : TypeId), VB.cells [I 0] (30 : TypeId), VB.cells [I (w.flo + (l ((0 : Int) + i)).flo), I (w.fhi + (l ((0 : Int) + i)).fhi), I (mD w.wlo w.flo (l ((0 : Int) + i)).wlo (l ((0 : Int) + i)).fhi), I (mU w.whi w.fhi (l ((0 : Int) + i)).whi (l ((0 : Int) + i)).flo)] (89 : TypeId), VB.cells [VV.ptr (VA.own 13 0)] (87 : TypeId), VB.loop true none (slG f) 67 [15, 16] as35 bd35, VB.vec (xs.length + 1) (catG xs.length (fun j => wtL (xs.getD j w0)) fun j => List.take (4) (List.drop (j * (4)) [I (w.flo + (l ((0 : Int) + i)).flo), I (w.fhi + (l ((0 : Int) + i)).fhi), I (mD w.wlo w.flo (l ((0 : Int) + i)).wlo (l ((0 : Int) + i)).fhi), I (mU w.whi w.fhi (l ((0 : Int) + i)).whi (l ((0 : Int) + i)).flo)])) (4) 25]
 else False
 else False
 else False
 else False
 else False
 else False
 else meanOk w.wlo w.flo (l ((0 : Int) + i)).wlo (l ((0 : Int) + i)).fhi ∧ meanOk w.whi w.flo (l ((0 : Int) + i)).whi (l ((0 : Int) + i)).fhi ∧ bif inK IntKind.i64 (w.flo + (l ((0 : Int) + i)).flo) then
 bif inK IntKind.i64 (w.fhi + (l ((0 : Int) + i)).fhi) then
 bif decide (w.flo + (l ((0 : Int) + i)).flo < (1 : Int)) then
 X VEx.ret [I i, I k, I ((↑n : Int) + (1 : Int)), VV.yld 15, VV.ptr (VA.own 6 0), VV.ptr (VA.own 7 0), VV.ptr (VA.own 8 0)] [ptsA n l, VB.cells [I f.flo, I f.fhi, I f.wlo, I f.whi] (25 : TypeId), VB.cells [VV.slice (VA.el 0 [] (0 : Int) 0) n cap] (26 : TypeId), VB.cells [I at'] (3 : TypeId), VB.cells [I lim] (3 : TypeId), VB.cells [I (mP heat).k, I (mP heat).flo, I (mP heat).fhi, I (mP heat).wlo, I (mP heat).whi, I (mP heat).hlo, I (mP heat).hhi, I (mP heat).slo, I (mP heat).shi] (47 : TypeId), VB.cells [VV.slice (VA.el 0 [] (0 : Int) 0) n cap] (26 : TypeId), VB.cells [I at'] (3 : TypeId), VB.cells [VV.ptr (VA.own 5 0)] (78 : TypeId), VB.cells [VV.nils] (29 : TypeId), VB.cells [I k] (3 : TypeId), VB.cells [I 10] (30 : TypeId), VB.cells [I (w.flo + (l ((0 : Int) + i)).flo), I (w.fhi + (l ((0 : Int) + i)).fhi), I (mD w.wlo w.flo (l ((0 : Int) + i)).wlo (l ((0 : Int) + i)).fhi), I (mU w.whi w.flo (l ((0 : Int) + i)).whi (l ((0 : Int) + i)).fhi)] (89 : TypeId), VB.cells [VV.ptr (VA.own 13 0)] (87 : TypeId), VB.loop false (some VEx.ret) (slG f) 67 [15, 16] as35 bd35, VB.vec xs.length (fun j => wtL (xs.getD j w0)) 4 (25 : TypeId)]
 else bif decide (w.fhi + (l ((0 : Int) + i)).fhi > (1073741824 : Int)) then
 X VEx.ret [I i, I k, I ((↑n : Int) + (1 : Int)), VV.yld 15, VV.ptr (VA.own 6 0), VV.ptr (VA.own 7 0), VV.ptr (VA.own 8 0)] [ptsA n l, VB.cells [I f.flo, I f.fhi, I f.wlo, I f.whi] (25 : TypeId), VB.cells [VV.slice (VA.el 0 [] (0 : Int) 0) n cap] (26 : TypeId), VB.cells [I at'] (3 : TypeId), VB.cells [I lim] (3 : TypeId), VB.cells [I (mP heat).k, I (mP heat).flo, I (mP heat).fhi, I (mP heat).wlo, I (mP heat).whi, I (mP heat).hlo, I (mP heat).hhi, I (mP heat).slo, I (mP heat).shi] (47 : TypeId), VB.cells [VV.slice (VA.el 0 [] (0 : Int) 0) n cap] (26 : TypeId), VB.cells [I at'] (3 : TypeId), VB.cells [VV.ptr (VA.own 5 0)] (78 : TypeId), VB.cells [VV.nils] (29 : TypeId), VB.cells [I k] (3 : TypeId), VB.cells [I 12] (30 : TypeId), VB.cells [I (w.flo + (l ((0 : Int) + i)).flo), I (w.fhi + (l ((0 : Int) + i)).fhi), I (mD w.wlo w.flo (l ((0 : Int) + i)).wlo (l ((0 : Int) + i)).fhi), I (mU w.whi w.flo (l ((0 : Int) + i)).whi (l ((0 : Int) + i)).fhi)] (89 : TypeId), VB.cells [VV.ptr (VA.own 13 0)] (87 : TypeId), VB.loop false (some VEx.ret) (slG f) 67 [15, 16] as35 bd35, VB.vec xs.length (fun j => wtL (xs.getD j w0)) 4 (25 : TypeId)]
 else bif decide (mU w.whi w.flo (l ((0 : Int) + i)).whi (l ((0 : Int) + i)).fhi > (100000 : Int)) then
 X VEx.ret [I i, I k, I ((↑n : Int) + (1 : Int)), VV.yld 15, VV.ptr (VA.own 6 0), VV.ptr (VA.own 7 0), VV.ptr (VA.own 8 0)] [ptsA n l, VB.cells [I f.flo, I f.fhi, I f.wlo, I f.whi] (25 : TypeId), VB.cells [VV.slice (VA.el 0 [] (0 : Int) 0) n cap] (26 : TypeId), VB.cells [I at'] (3 : TypeId), VB.cells [I lim] (3 : TypeId), VB.cells [I (mP heat).k, I (mP heat).flo, I (mP heat).fhi, I (mP heat).wlo, I (mP heat).whi, I (mP heat).hlo, I (mP heat).hhi, I (mP heat).slo, I (mP heat).shi] (47 : TypeId), VB.cells [VV.slice (VA.el 0 [] (0 : Int) 0) n cap] (26 : TypeId), VB.cells [I at'] (3 : TypeId), VB.cells [VV.ptr (VA.own 5 0)] (78 : TypeId), VB.cells [VV.nils] (29 : TypeId), VB.cells [I k] (3 : TypeId), VB.cells [I 12] (30 : TypeId), VB.cells [I (w.flo + (l ((0 : Int) + i)).flo), I (w.fhi + (l ((0 : Int) + i)).fhi), I (mD w.wlo w.flo (l ((0 : Int) + i)).wlo (l ((0 : Int) + i)).fhi), I (mU w.whi w.flo (l ((0 : Int) + i)).whi (l ((0 : Int) + i)).fhi)] (89 : TypeId), VB.cells [VV.ptr (VA.own 13 0)] (87 : TypeId), VB.loop false (some VEx.ret) (slG f) 67 [15, 16] as35 bd35, VB.vec xs.length (fun j => wtL (xs.getD j w0)) 4 (25 : TypeId)]
 else bif xs.length.beq xs.length then
 bif roomB (xs.length + 1) (32) then
 bif inK IntKind.i64 (k + (1 : Int)) then
 bif inK IntKind.i64 (i + (1 : Int)) then
 X VEx.normal [I (i + (1 : Int)), I (k + (1 : Int)), I ((↑n : Int) + (1 : Int)), VV.yld 15, VV.ptr (VA.own 6 0), VV.ptr (VA.own 7 0), VV.ptr (VA.own 8 0)] [ptsA n l, VB.cells [I f.flo, I f.fhi, I f.wlo, I f.whi] (25 : TypeId), VB.cells [VV.slice (VA.el 0 [] (0 : Int) 0) n cap] (26 : TypeId), VB.cells [I at'] (3 : TypeId), VB.cells [I lim] (3 : TypeId), VB.cells [I (mP heat).k, I (mP heat).flo, I (mP heat).fhi, I (mP heat).wlo, I (mP heat).whi, I (mP heat).hlo, I (mP heat).hhi, I (mP heat).slo, I (mP heat).shi] (47 : TypeId), VB.cells [VV.slice (VA.el 0 [] (0 : Int) 0) n cap] (26 : TypeId), VB.cells [I at'] (3 : TypeId), VB.cells [VV.ptr (VA.own 5 0)] (78 : TypeId), VB.cells [VV.sl 16 (xs.length + 1)] (29 : TypeId), VB.cells [I 0] (3 : TypeId), VB.cells [I 0] (30 : TypeId), VB.cells [I (w.flo + (l ((0 : Int) + i)).flo), I (w.fhi + (l ((0 : Int) + i)).fhi), I (mD w.wlo w.flo (l ((0 : Int) + i)).wlo (l ((0 : Int) + i)).fhi), I (mU w.whi w.flo (l ((0 : Int) + i)).whi (l ((0 : Int) + i)).fhi)] (89 : TypeId), VB.cells [VV.ptr (VA.own 13 0)] (87 : TypeId), VB.loop true none (slG f) 67 [15, 16] as35 bd35, VB.vec (xs.length + 1) (catG xs.length (fun j => wtL (xs.getD j w0)) fun j => List.take (4) (List.drop (j * (4)) [I (w.flo + (l ((0 : Int) + i)).flo), I (w.fhi + (l ((0 : Int) + i)).fhi), I (mD w.wlo w.flo (l ((0 : Int) + i)).wlo (l ((0 : Int) + i)).fhi), I (mU w.whi w.flo (l ((0 : Int) + i)).whi (l ((0 : Int) + i)).fhi)])) (4) 25]
 else False
 else False
 else False
 else False
 else False
 else False
 else bif decide ((l ((0 : Int) + i)).whi < w.whi) then
 meanOk w.wlo w.fhi (l ((0 : Int) + i)).wlo (l ((0 : Int) + i)).flo ∧ meanOk w.whi w.fhi (l ((0 : Int) + i)).whi (l ((0 : Int) + i)).flo ∧ bif inK IntKind.i64 (w.flo + (l ((0 : Int) + i)).flo) then
 bif inK IntKind.i64 (w.fhi + (l ((0 : Int) + i)).fhi) then
 bif decide (w.flo + (l ((0 : Int) + i)).flo < (1 : Int)) then
 X VEx.ret [I i, I k, I ((↑n : Int) + (1 : Int)), VV.yld 15, VV.ptr (VA.own 6 0), VV.ptr (VA.own 7 0), VV.ptr (VA.own 8 0)] [ptsA n l, VB.cells [I f.flo, I f.fhi, I f.wlo, I f.whi] (25 : TypeId), VB.cells [VV.slice (VA.el 0 [] (0 : Int) 0) n cap] (26 : TypeId), VB.cells [I at'] (3 : TypeId), VB.cells [I lim] (3 : TypeId), VB.cells [I (mP heat).k, I (mP heat).flo, I (mP heat).fhi, I (mP heat).wlo, I (mP heat).whi, I (mP heat).hlo, I (mP heat).hhi, I (mP heat).slo, I (mP heat).shi] (47 : TypeId), VB.cells [VV.slice (VA.el 0 [] (0 : Int) 0) n cap] (26 : TypeId), VB.cells [I at'] (3 : TypeId), VB.cells [VV.ptr (VA.own 5 0)] (78 : TypeId), VB.cells [VV.nils] (29 : TypeId), VB.cells [I k] (3 : TypeId), VB.cells [I 10] (30 : TypeId), VB.cells [I (w.flo + (l ((0 : Int) + i)).flo), I (w.fhi + (l ((0 : Int) + i)).fhi), I (mD w.wlo w.fhi (l ((0 : Int) + i)).wlo (l ((0 : Int) + i)).flo), I (mU w.whi w.fhi (l ((0 : Int) + i)).whi (l ((0 : Int) + i)).flo)] (89 : TypeId), VB.cells [VV.ptr (VA.own 13 0)] (87 : TypeId), VB.loop false (some VEx.ret) (slG f) 67 [15, 16] as35 bd35, VB.vec xs.length (fun j => wtL (xs.getD j w0)) 4 (25 : TypeId)]
 else bif decide (w.fhi + (l ((0 : Int) + i)).fhi > (1073741824 : Int)) then
 X VEx.ret [I i, I k, I ((↑n : Int) + (1 : Int)), VV.yld 15, VV.ptr (VA.own 6 0), VV.ptr (VA.own 7 0), VV.ptr (VA.own 8 0)] [ptsA n l, VB.cells [I f.flo, I f.fhi, I f.wlo, I f.whi] (25 : TypeId), VB.cells [VV.slice (VA.el 0 [] (0 : Int) 0) n cap] (26 : TypeId), VB.cells [I at'] (3 : TypeId), VB.cells [I lim] (3 : TypeId), VB.cells [I (mP heat).k, I (mP heat).flo, I (mP heat).fhi, I (mP heat).wlo, I (mP heat).whi, I (mP heat).hlo, I (mP heat).hhi, I (mP heat).slo, I (mP heat).shi] (47 : TypeId), VB.cells [VV.slice (VA.el 0 [] (0 : Int) 0) n cap] (26 : TypeId), VB.cells [I at'] (3 : TypeId), VB.cells [VV.ptr (VA.own 5 0)] (78 : TypeId), VB.cells [VV.nils] (29 : TypeId), VB.cells [I k] (3 : TypeId), VB.cells [I 12] (30 : TypeId), VB.cells [I (w.flo + (l ((0 : Int) + i)).flo), I (w.fhi + (l ((0 : Int) + i)).fhi), I (mD w.wlo w.fhi (l ((0 : Int) + i)).wlo (l ((0 : Int) + i)).flo), I (mU w.whi w.fhi (l ((0 : Int) + i)).whi (l ((0 : Int) + i)).flo)] (89 : TypeId), VB.cells [VV.ptr (VA.own 13 0)] (87 : TypeId), VB.loop false (some VEx.ret) (slG f) 67 [15, 16] as35 bd35, VB.vec xs.length (fun j => wtL (xs.getD j w0)) 4 (25 : TypeId)]
 else bif decide (mU w.whi w.fhi (l ((0 : Int) + i)).whi (l ((0 : Int) + i)).flo > (100000 : Int)) then
 X VEx.ret [I i, I k, I ((↑n : Int) + (1 : Int)), VV.yld 15, VV.ptr (VA.own 6 0), VV.ptr (VA.own 7 0), VV.ptr (VA.own 8 0)] [ptsA n l, VB.cells [I f.flo, I f.fhi, I f.wlo, I f.whi] (25 : TypeId), VB.cells [VV.slice (VA.el 0 [] (0 : Int) 0) n cap] (26 : TypeId), VB.cells [I at'] (3 : TypeId), VB.cells [I lim] (3 : TypeId), VB.cells [I (mP heat).k, I (mP heat).flo, I (mP heat).fhi, I (mP heat).wlo, I (mP heat).whi, I (mP heat).hlo, I (mP heat).hhi, I (mP heat).slo, I (mP heat).shi] (47 : TypeId), VB.cells [VV.slice (VA.el 0 [] (0 : Int) 0) n cap] (26 : TypeId), VB.cells [I at'] (3 : TypeId), VB.cells [VV.ptr (VA.own 5 0)] (78 : TypeId), VB.cells [VV.nils] (29 : TypeId), VB.cells [I k] (3 : TypeId), VB.cells [I 12] (30 : TypeId), VB.cells [I (w.flo + (l ((0 : Int) + i)).flo), I (w.fhi + (l ((0 : Int) + i)).fhi), I (mD w.wlo w.fhi (l ((0 : Int) + i)).wlo (l ((0 : Int) + i)).flo), I (mU w.whi w.fhi (l ((0 : Int) + i)).whi (l ((0 : Int) + i)).flo)] (89 : TypeId), VB.cells [VV.ptr (VA.own 13 0)] (87 : TypeId), VB.loop false (some VEx.ret) (slG f) 67 [15, 16] as35 bd35, VB.vec xs.length (fun j => wtL (xs.getD j w0)) 4 (25 : TypeId)]
 else bif xs.length.beq xs.length then
 bif roomB (xs.length + 1) (32) then
 bif inK IntKind.i64 (k + (1 : Int)) then
 bif inK IntKind.i64 (i + (1 : Int)) then
 X VEx.normal [I (i + (1 : Int)), I (k + (1 : Int)), I ((↑n : Int) + (1 : Int)), VV.yld 15, VV.ptr (VA.own 6 0), VV.ptr (VA.own 7 0), VV.ptr (VA.own 8 0)] [ptsA n l, VB.cells [I f.flo, I f.fhi, I f.wlo, I f.whi] (25 : TypeId), VB.cells [VV.slice (VA.el 0 [] (0 : Int) 0) n cap] (26 : TypeId), VB.cells [I at'] (3 : TypeId), VB.cells [I lim] (3 : TypeId), VB.cells [I (mP heat).k, I (mP heat).flo, I (mP heat).fhi, I (mP heat).wlo, I (mP heat).whi, I (mP heat).hlo, I (mP heat).hhi, I (mP heat).slo, I (mP heat).shi] (47 : TypeId), VB.cells [VV.slice (VA.el 0 [] (0 : Int) 0) n cap] (26 : TypeId), VB.cells [I at'] (3 : TypeId), VB.cells [VV.ptr (VA.own 5 0)] (78 : TypeId), VB.cells [VV.sl 16 (xs.length + 1)] (29 : TypeId), VB.cells [I 0] (3 : TypeId), VB.cells [I 0] (30 : TypeId), VB.cells [I (w.flo + (l ((0 : Int) + i)).flo), I (w.fhi + (l ((0 : Int) + i)).fhi), I (mD w.wlo w.fhi (l ((0 : Int) + i)).wlo (l ((0 : Int) + i)).flo), I (mU w.whi w.fhi (l ((0 : Int) + i)).whi (l ((0 : Int) + i)).flo)] (89 : TypeId), VB.cells [VV.ptr (VA.own 13 0)] (87 : TypeId), VB.loop true none (slG f) 67 [15, 16] as35 bd35, VB.vec (xs.length + 1) (catG xs.length (fun j => wtL (xs.getD j w0)) fun j => List.take (4) (List.drop (j * (4)) [I (w.flo + (l ((0 : Int) + i)).flo), I (w.fhi + (l ((0 : Int) + i)).fhi), I (mD w.wlo w.fhi (l ((0 : Int) + i)).wlo (l ((0 : Int) + i)).flo), I (mU w.whi w.fhi (l ((0 : Int) + i)).whi (l ((0 : Int) + i)).flo)])) (4) 25]
 else False
 else False
 else False
 else False
 else False
 else False
 else meanOk w.wlo w.fhi (l ((0 : Int) + i)).wlo (l ((0 : Int) + i)).flo ∧ meanOk w.whi w.flo (l ((0 : Int) + i)).whi (l ((0 : Int) + i)).fhi ∧ bif inK IntKind.i64 (w.flo + (l ((0 : Int) + i)).flo) then
 bif inK IntKind.i64 (w.fhi + (l ((0 : Int) + i)).fhi) then
 bif decide (w.flo + (l ((0 : Int) + i)).flo < (1 : Int)) then
 X VEx.ret [I i, I k, I ((↑n : Int) + (1 : Int)), VV.yld 15, VV.ptr (VA.own 6 0), VV.ptr (VA.own 7 0), VV.ptr (VA.own 8 0)] [ptsA n l, VB.cells [I f.flo, I f.fhi, I f.wlo, I f.whi] (25 : TypeId), VB.cells [VV.slice (VA.el 0 [] (0 : Int) 0) n cap] (26 : TypeId), VB.cells [I at'] (3 : TypeId), VB.cells [I lim] (3 : TypeId), VB.cells [I (mP heat).k, I (mP heat).flo, I (mP heat).fhi, I (mP heat).wlo, I (mP heat).whi, I (mP heat).hlo, I (mP heat).hhi, I (mP heat).slo, I (mP heat).shi] (47 : TypeId), VB.cells [VV.slice (VA.el 0 [] (0 : Int) 0) n cap] (26 : TypeId), VB.cells [I at'] (3 : TypeId), VB.cells [VV.ptr (VA.own 5 0)] (78 : TypeId), VB.cells [VV.nils] (29 : TypeId), VB.cells [I k] (3 : TypeId), VB.cells [I 10] (30 : TypeId), VB.cells [I (w.flo + (l ((0 : Int) + i)).flo), I (w.fhi + (l ((0 : Int) + i)).fhi), I (mD w.wlo w.fhi (l ((0 : Int) + i)).wlo (l ((0 : Int) + i)).flo), I (mU w.whi w.flo (l ((0 : Int) + i)).whi (l ((0 : Int) + i)).fhi)] (89 : TypeId), VB.cells [VV.ptr (VA.own 13 0)] (87 : TypeId), VB.loop false (some VEx.ret) (slG f) 67 [15, 16] as35 bd35, VB.vec xs.length (fun j => wtL (xs.getD j w0)) 4 (25 : TypeId)]
 else bif decide (w.fhi + (l ((0 : Int) + i)).fhi > (1073741824 : Int)) then
 X VEx.ret [I i, I k, I ((↑n : Int) + (1 : Int)), VV.yld 15, VV.ptr (VA.own 6 0), VV.ptr (VA.own 7 0), VV.ptr (VA.own 8 0)] [ptsA n l, VB.cells [I f.flo, I f.fhi, I f.wlo, I f.whi] (25 : TypeId), VB.cells [VV.slice (VA.el 0 [] (0 : Int) 0) n cap] (26 : TypeId), VB.cells [I at'] (3 : TypeId), VB.cells [I lim] (3 : TypeId), VB.cells [I (mP heat).k, I (mP heat).flo, I (mP heat).fhi, I (mP heat).wlo, I (mP heat).whi, I (mP heat).hlo, I (mP heat).hhi, I (mP heat).slo, I (mP heat).shi] (47 : TypeId), VB.cells [VV.slice (VA.el 0 [] (0 : Int) 0) n cap] (26 : TypeId), VB.cells [I at'] (3 : TypeId), VB.cells [VV.ptr (VA.own 5 0)] (78 : TypeId), VB.cells [VV.nils] (29 : TypeId), VB.cells [I k] (3 : TypeId), VB.cells [I 12] (30 : TypeId), VB.cells [I (w.flo + (l ((0 : Int) + i)).flo), I (w.fhi + (l ((0 : Int) + i)).fhi), I (mD w.wlo w.fhi (l ((0 : Int) + i)).wlo (l ((0 : Int) + i)).flo), I (mU w.whi w.flo (l ((0 : Int) + i)).whi (l ((0 : Int) + i)).fhi)] (89 : TypeId), VB.cells [VV.ptr (VA.own 13 0)] (87 : TypeId), VB.loop false (some VEx.ret) (slG f) 67 [15, 16] as35 bd35, VB.vec xs.length (fun j => wtL (xs.getD j w0)) 4 (25 : TypeId)]
 else bif decide (mU w.whi w.flo (l ((0 : Int) + i)).whi (l ((0 : Int) + i)).fhi > (100000 : Int)) then
 X VEx.ret [I i, I k, I ((↑n : Int) + (1 : Int)), VV.yld 15, VV.ptr (VA.own 6 0), VV.ptr (VA.own 7 0), VV.ptr (VA.own 8 0)] [ptsA n l, VB.cells [I f.flo, I f.fhi, I f.wlo, I f.whi] (25 : TypeId), VB.cells [VV.slice (VA.el 0 [] (0 : Int) 0) n cap] (26 : TypeId), VB.cells [I at'] (3 : TypeId), VB.cells [I lim] (3 : TypeId), VB.cells [I (mP heat).k, I (mP heat).flo, I (mP heat).fhi, I (mP heat).wlo, I (mP heat).whi, I (mP heat).hlo, I (mP heat).hhi, I (mP heat).slo, I (mP heat).shi] (47 : TypeId), VB.cells [VV.slice (VA.el 0 [] (0 : Int) 0) n cap] (26 : TypeId), VB.cells [I at'] (3 : TypeId), VB.cells [VV.ptr (VA.own 5 0)] (78 : TypeId), VB.cells [VV.nils] (29 : TypeId), VB.cells [I k] (3 : TypeId), VB.cells [I 12] (30 : TypeId), VB.cells [I (w.flo + (l ((0 : Int) + i)).flo), I (w.fhi + (l ((0 : Int) + i)).fhi), I (mD w.wlo w.fhi (l ((0 : Int) + i)).wlo (l ((0 : Int) + i)).flo), I (mU w.whi w.flo (l ((0 : Int) + i)).whi (l ((0 : Int) + i)).fhi)] (89 : TypeId), VB.cells [VV.ptr (VA.own 13 0)] (87 : TypeId), VB.loop false (some VEx.ret) (slG f) 67 [15, 16] as35 bd35, VB.vec xs.length (fun j => wtL (xs.getD j w0)) 4 (25 : TypeId)]
 else bif xs.length.beq xs.length then
 bif roomB (xs.length + 1) (32) then
 bif inK IntKind.i64 (k + (1 : Int)) then
 bif inK IntKind.i64 (i + (1 : Int)) then
 X VEx.normal [I (i + (1 : Int)), I (k + (1 : Int)), I ((↑n : Int) + (1 : Int)), VV.yld 15, VV.ptr (VA.own 6 0), VV.ptr (VA.own 7 0), VV.ptr (VA.own 8 0)] [ptsA n l, VB.cells [I f.flo, I f.fhi, I f.wlo, I f.whi] (25 : TypeId), VB.cells [VV.slice (VA.el 0 [] (0 : Int) 0) n cap] (26 : TypeId), VB.cells [I at'] (3 : TypeId), VB.cells [I lim] (3 : TypeId), VB.cells [I (mP heat).k, I (mP heat).flo, I (mP heat).fhi, I (mP heat).wlo, I (mP heat).whi, I (mP heat).hlo, I (mP heat).hhi, I (mP heat).slo, I (mP heat).shi] (47 : TypeId), VB.cells [VV.slice (VA.el 0 [] (0 : Int) 0) n cap] (26 : TypeId), VB.cells [I at'] (3 : TypeId), VB.cells [VV.ptr (VA.own 5 0)] (78 : TypeId), VB.cells [VV.sl 16 (xs.length + 1)] (29 : TypeId), VB.cells [I 0] (3 : TypeId), VB.cells [I 0] (30 : TypeId), VB.cells [I (w.flo + (l ((0 : Int) + i)).flo), I (w.fhi + (l ((0 : Int) + i)).fhi), I (mD w.wlo w.fhi (l ((0 : Int) + i)).wlo (l ((0 : Int) + i)).flo), I (mU w.whi w.flo (l ((0 : Int) + i)).whi (l ((0 : Int) + i)).fhi)] (89 : TypeId), VB.cells [VV.ptr (VA.own 13 0)] (87 : TypeId), VB.loop true none (slG f) 67 [15, 16] as35 bd35, VB.vec (xs.length + 1) (catG xs.length (fun j => wtL (xs.getD j w0)) fun j => List.take (4) (List.drop (j * (4)) [I (w.flo + (l ((0 : Int) + i)).flo), I (w.fhi + (l ((0 : Int) + i)).fhi), I (mD w.wlo w.fhi (l ((0 : Int) + i)).wlo (l ((0 : Int) + i)).flo), I (mU w.whi w.flo (l ((0 : Int) + i)).whi (l ((0 : Int) + i)).fhi)])) (4) 25]
 else False
 else False
 else False
 else False
 else False
 else False
 else X VEx.ret [I i, I k, I ((↑n : Int) + (1 : Int)), VV.yld 15, VV.ptr (VA.own 6 0), VV.ptr (VA.own 7 0), VV.ptr (VA.own 8 0)] [ptsA n l, VB.cells [I f.flo, I f.fhi, I f.wlo, I f.whi] (25 : TypeId), VB.cells [VV.slice (VA.el 0 [] (0 : Int) 0) n cap] (26 : TypeId), VB.cells [I at'] (3 : TypeId), VB.cells [I lim] (3 : TypeId), VB.cells [I (mP heat).k, I (mP heat).flo, I (mP heat).fhi, I (mP heat).wlo, I (mP heat).whi, I (mP heat).hlo, I (mP heat).hhi, I (mP heat).slo, I (mP heat).shi] (47 : TypeId), VB.cells [VV.slice (VA.el 0 [] (0 : Int) 0) n cap] (26 : TypeId), VB.cells [I at'] (3 : TypeId), VB.cells [VV.ptr (VA.own 5 0)] (78 : TypeId), VB.cells [VV.nils] (29 : TypeId), VB.cells [I k] (3 : TypeId), VB.cells [I 1] (30 : TypeId), VB.cells [I w.flo, I w.fhi, I w.wlo, I w.whi] (89 : TypeId), VB.cells [VV.ptr (VA.own 13 0)] (87 : TypeId), VB.loop false (some VEx.ret) (slG f) 67 [15, 16] as35 bd35, VB.vec xs.length (fun j => wtL (xs.getD j w0)) 4 (25 : TypeId)]
 else bif decide ((l ((0 : Int) + i)).k = (1 : Int)) then
 bif !spanB (l ((0 : Int) + i)).flo (l ((0 : Int) + i)).fhi (0 : Int) (1073741824 : Int) then
 X VEx.ret [I i, I k, I ((↑n : Int) + (1 : Int)), VV.yld 15, VV.ptr (VA.own 6 0), VV.ptr (VA.own 7 0), VV.ptr (VA.own 8 0)] [ptsA n l, VB.cells [I f.flo, I f.fhi, I f.wlo, I f.whi] (25 : TypeId), VB.cells [VV.slice (VA.el 0 [] (0 : Int) 0) n cap] (26 : TypeId), VB.cells [I at'] (3 : TypeId), VB.cells [I lim] (3 : TypeId), VB.cells [I (mP heat).k, I (mP heat).flo, I (mP heat).fhi, I (mP heat).wlo, I (mP heat).whi, I (mP heat).hlo, I (mP heat).hhi, I (mP heat).slo, I (mP heat).shi] (47 : TypeId), VB.cells [VV.slice (VA.el 0 [] (0 : Int) 0) n cap] (26 : TypeId), VB.cells [I at'] (3 : TypeId), VB.cells [VV.ptr (VA.own 5 0)] (78 : TypeId), VB.cells [VV.nils] (29 : TypeId), VB.cells [I k] (3 : TypeId), VB.cells [I 1] (30 : TypeId), VB.cells [I w.flo, I w.fhi, I w.wlo, I w.whi] (89 : TypeId), VB.cells [VV.ptr (VA.own 13 0)] (87 : TypeId), VB.loop false (some VEx.ret) (slG f) 67 [15, 16] as35 bd35, VB.vec xs.length (fun j => wtL (xs.getD j w0)) 4 (25 : TypeId)]
 else bif inK IntKind.i64 (w.flo - (l ((0 : Int) + i)).fhi) then
 bif inK IntKind.i64 (w.fhi - (l ((0 : Int) + i)).flo) then
 bif decide (w.flo - (l ((0 : Int) + i)).fhi < (1 : Int)) then
 X VEx.ret [I i, I k, I ((↑n : Int) + (1 : Int)), VV.yld 15, VV.ptr (VA.own 6 0), VV.ptr (VA.own 7 0), VV.ptr (VA.own 8 0)] [ptsA n l, VB.cells [I f.flo, I f.fhi, I f.wlo, I f.whi] (25 : TypeId), VB.cells [VV.slice (VA.el 0 [] (0 : Int) 0) n cap] (26 : TypeId), VB.cells [I at'] (3 : TypeId), VB.cells [I lim] (3 : TypeId), VB.cells [I (mP heat).k, I (mP heat).flo, I (mP heat).fhi, I (mP heat).wlo, I (mP heat).whi, I (mP heat).hlo, I (mP heat).hhi, I (mP heat).slo, I (mP heat).shi] (47 : TypeId), VB.cells [VV.slice (VA.el 0 [] (0 : Int) 0) n cap] (26 : TypeId), VB.cells [I at'] (3 : TypeId), VB.cells [VV.ptr (VA.own 5 0)] (78 : TypeId), VB.cells [VV.nils] (29 : TypeId), VB.cells [I k] (3 : TypeId), VB.cells [I 10] (30 : TypeId), VB.cells [I (w.flo - (l ((0 : Int) + i)).fhi), I (w.fhi - (l ((0 : Int) + i)).flo), I w.wlo, I w.whi] (89 : TypeId), VB.cells [VV.ptr (VA.own 13 0)] (87 : TypeId), VB.loop false (some VEx.ret) (slG f) 67 [15, 16] as35 bd35, VB.vec xs.length (fun j => wtL (xs.getD j w0)) 4 (25 : TypeId)]
 else bif decide (w.fhi - (l ((0 : Int) + i)).flo > (1073741824 : Int)) then
 X VEx.ret [I i, I k, I ((↑n : Int) + (1 : Int)), VV.yld 15, VV.ptr (VA.own 6 0), VV.ptr (VA.own 7 0), VV.ptr (VA.own 8 0)] [ptsA n l, VB.cells [I f.flo, I f.fhi, I f.wlo, I f.whi] (25 : TypeId), VB.cells [VV.slice (VA.el 0 [] (0 : Int) 0) n cap] (26 : TypeId), VB.cells [I at'] (3 : TypeId), VB.cells [I lim] (3 : TypeId), VB.cells [I (mP heat).k, I (mP heat).flo, I (mP heat).fhi, I (mP heat).wlo, I (mP heat).whi, I (mP heat).hlo, I (mP heat).hhi, I (mP heat).slo, I (mP heat).shi] (47 : TypeId), VB.cells [VV.slice (VA.el 0 [] (0 : Int) 0) n cap] (26 : TypeId), VB.cells [I at'] (3 : TypeId), VB.cells [VV.ptr (VA.own 5 0)] (78 : TypeId), VB.cells [VV.nils] (29 : TypeId), VB.cells [I k] (3 : TypeId), VB.cells [I 12] (30 : TypeId), VB.cells [I (w.flo - (l ((0 : Int) + i)).fhi), I (w.fhi - (l ((0 : Int) + i)).flo), I w.wlo, I w.whi] (89 : TypeId), VB.cells [VV.ptr (VA.own 13 0)] (87 : TypeId), VB.loop false (some VEx.ret) (slG f) 67 [15, 16] as35 bd35, VB.vec xs.length (fun j => wtL (xs.getD j w0)) 4 (25 : TypeId)]
 else bif decide (w.whi > (100000 : Int)) then
 X VEx.ret [I i, I k, I ((↑n : Int) + (1 : Int)), VV.yld 15, VV.ptr (VA.own 6 0), VV.ptr (VA.own 7 0), VV.ptr (VA.own 8 0)] [ptsA n l, VB.cells [I f.flo, I f.fhi, I f.wlo, I f.whi] (25 : TypeId), VB.cells [VV.slice (VA.el 0 [] (0 : Int) 0) n cap] (26 : TypeId), VB.cells [I at'] (3 : TypeId), VB.cells [I lim] (3 : TypeId), VB.cells [I (mP heat).k, I (mP heat).flo, I (mP heat).fhi, I (mP heat).wlo, I (mP heat).whi, I (mP heat).hlo, I (mP heat).hhi, I (mP heat).slo, I (mP heat).shi] (47 : TypeId), VB.cells [VV.slice (VA.el 0 [] (0 : Int) 0) n cap] (26 : TypeId), VB.cells [I at'] (3 : TypeId), VB.cells [VV.ptr (VA.own 5 0)] (78 : TypeId), VB.cells [VV.nils] (29 : TypeId), VB.cells [I k] (3 : TypeId), VB.cells [I 12] (30 : TypeId), VB.cells [I (w.flo - (l ((0 : Int) + i)).fhi), I (w.fhi - (l ((0 : Int) + i)).flo), I w.wlo, I w.whi] (89 : TypeId), VB.cells [VV.ptr (VA.own 13 0)] (87 : TypeId), VB.loop false (some VEx.ret) (slG f) 67 [15, 16] as35 bd35, VB.vec xs.length (fun j => wtL (xs.getD j w0)) 4 (25 : TypeId)]
 else bif xs.length.beq xs.length then
 bif roomB (xs.length + 1) (32) then
 bif inK IntKind.i64 (k + (1 : Int)) then
 bif inK IntKind.i64 (i + (1 : Int)) then
 X VEx.normal [I (i + (1 : Int)), I (k + (1 : Int)), I ((↑n : Int) + (1 : Int)), VV.yld 15, VV.ptr (VA.own 6 0), VV.ptr (VA.own 7 0), VV.ptr (VA.own 8 0)] [ptsA n l, VB.cells [I f.flo, I f.fhi, I f.wlo, I f.whi] (25 : TypeId), VB.cells [VV.slice (VA.el 0 [] (0 : Int) 0) n cap] (26 : TypeId), VB.cells [I at'] (3 : TypeId), VB.cells [I lim] (3 : TypeId), VB.cells [I (mP heat).k, I (mP heat).flo, I (mP heat).fhi, I (mP heat).wlo, I (mP heat).whi, I (mP heat).hlo, I (mP heat).hhi, I (mP heat).slo, I (mP heat).shi] (47 : TypeId), VB.cells [VV.slice (VA.el 0 [] (0 : Int) 0) n cap] (26 : TypeId), VB.cells [I at'] (3 : TypeId), VB.cells [VV.ptr (VA.own 5 0)] (78 : TypeId), VB.cells [VV.sl 16 (xs.length + 1)] (29 : TypeId), VB.cells [I 0] (3 : TypeId), VB.cells [I 0] (30 : TypeId), VB.cells [I (w.flo - (l ((0 : Int) + i)).fhi), I (w.fhi - (l ((0 : Int) + i)).flo), I w.wlo, I w.whi] (89 : TypeId), VB.cells [VV.ptr (VA.own 13 0)] (87 : TypeId), VB.loop true none (slG f) 67 [15, 16] as35 bd35, VB.vec (xs.length + 1) (catG xs.length (fun j => wtL (xs.getD j w0)) fun j => List.take (4) (List.drop (j * (4)) [I (w.flo - (l ((0 : Int) + i)).fhi), I (w.fhi - (l ((0 : Int) + i)).flo), I w.wlo, I w.whi])) (4) 25]
 else False
 else False
 else False
 else False
 else False
 else False
 else bif decide ((l ((0 : Int) + i)).k = (2 : Int)) then
 bif !spanB (l ((0 : Int) + i)).hlo (l ((0 : Int) + i)).hhi (0 : Int) (1099511627776 : Int) then
 X VEx.ret [I i, I k, I ((↑n : Int) + (1 : Int)), VV.yld 15, VV.ptr (VA.own 6 0), VV.ptr (VA.own 7 0), VV.ptr (VA.own 8 0)] [ptsA n l, VB.cells [I f.flo, I f.fhi, I f.wlo, I f.whi] (25 : TypeId), VB.cells [VV.slice (VA.el 0 [] (0 : Int) 0) n cap] (26 : TypeId), VB.cells [I at'] (3 : TypeId), VB.cells [I lim] (3 : TypeId), VB.cells [I (mP heat).k, I (mP heat).flo, I (mP heat).fhi, I (mP heat).wlo, I (mP heat).whi, I (mP heat).hlo, I (mP heat).hhi, I (mP heat).slo, I (mP heat).shi] (47 : TypeId), VB.cells [VV.slice (VA.el 0 [] (0 : Int) 0) n cap] (26 : TypeId), VB.cells [I at'] (3 : TypeId), VB.cells [VV.ptr (VA.own 5 0)] (78 : TypeId), VB.cells [VV.nils] (29 : TypeId), VB.cells [I k] (3 : TypeId), VB.cells [I 1] (30 : TypeId), VB.cells [I w.flo, I w.fhi, I w.wlo, I w.whi] (89 : TypeId), VB.cells [VV.ptr (VA.own 13 0)] (87 : TypeId), VB.loop false (some VEx.ret) (slG f) 67 [15, 16] as35 bd35, VB.vec xs.length (fun j => wtL (xs.getD j w0)) 4 (25 : TypeId)]
 else bif decide (w.fhi = (0 : Int)) then
 False
 else bif inK IntKind.i64 (quoZ (l ((0 : Int) + i)).hlo w.fhi) then
 bif inK IntKind.i64 (w.wlo + quoZ (l ((0 : Int) + i)).hlo w.fhi) then
 upOk (l ((0 : Int) + i)).hhi w.flo ∧ bif inK IntKind.i64 (w.whi + quoZ ((l ((0 : Int) + i)).hhi + w.flo - (1 : Int)) w.flo) then
 bif decide (w.flo < (1 : Int)) then
 X VEx.ret [I i, I k, I ((↑n : Int) + (1 : Int)), VV.yld 15, VV.ptr (VA.own 6 0), VV.ptr (VA.own 7 0), VV.ptr (VA.own 8 0)] [ptsA n l, VB.cells [I f.flo, I f.fhi, I f.wlo, I f.whi] (25 : TypeId), VB.cells [VV.slice (VA.el 0 [] (0 : Int) 0) n cap] (26 : TypeId), VB.cells [I at'] (3 : TypeId), VB.cells [I lim] (3 : TypeId), VB.cells [I (mP heat).k, I (mP heat).flo, I (mP heat).fhi, I (mP heat).wlo, I (mP heat).whi, I (mP heat).hlo, I (mP heat).hhi, I (mP heat).slo, I (mP heat).shi] (47 : TypeId), VB.cells [VV.slice (VA.el 0 [] (0 : Int) 0) n cap] (26 : TypeId), VB.cells [I at'] (3 : TypeId), VB.cells [VV.ptr (VA.own 5 0)] (78 : TypeId), VB.cells [VV.nils] (29 : TypeId), VB.cells [I k] (3 : TypeId), VB.cells [I 10] (30 : TypeId), VB.cells [I w.flo, I w.fhi, I (w.wlo + quoZ (l ((0 : Int) + i)).hlo w.fhi), I (w.whi + quoZ ((l ((0 : Int) + i)).hhi + w.flo - (1 : Int)) w.flo)] (89 : TypeId), VB.cells [VV.ptr (VA.own 13 0)] (87 : TypeId), VB.loop false (some VEx.ret) (slG f) 67 [15, 16] as35 bd35, VB.vec xs.length (fun j => wtL (xs.getD j w0)) 4 (25 : TypeId)]
 else bif decide (w.fhi > (1073741824 : Int)) then
 X VEx.ret [I i, I k, I ((↑n : Int) + (1 : Int)), VV.yld 15, VV.ptr (VA.own 6 0), VV.ptr (VA.own 7 0), VV.ptr (VA.own 8 0)] [ptsA n l, VB.cells [I f.flo, I f.fhi, I f.wlo, I f.whi] (25 : TypeId), VB.cells [VV.slice (VA.el 0 [] (0 : Int) 0) n cap] (26 : TypeId), VB.cells [I at'] (3 : TypeId), VB.cells [I lim] (3 : TypeId), VB.cells [I (mP heat).k, I (mP heat).flo, I (mP heat).fhi, I (mP heat).wlo, I (mP heat).whi, I (mP heat).hlo, I (mP heat).hhi, I (mP heat).slo, I (mP heat).shi] (47 : TypeId), VB.cells [VV.slice (VA.el 0 [] (0 : Int) 0) n cap] (26 : TypeId), VB.cells [I at'] (3 : TypeId), VB.cells [VV.ptr (VA.own 5 0)] (78 : TypeId), VB.cells [VV.nils] (29 : TypeId), VB.cells [I k] (3 : TypeId), VB.cells [I 12] (30 : TypeId), VB.cells [I w.flo, I w.fhi, I (w.wlo + quoZ (l ((0 : Int) + i)).hlo w.fhi), I (w.whi + quoZ ((l ((0 : Int) + i)).hhi + w.flo - (1 : Int)) w.flo)] (89 : TypeId), VB.cells [VV.ptr (VA.own 13 0)] (87 : TypeId), VB.loop false (some VEx.ret) (slG f) 67 [15, 16] as35 bd35, VB.vec xs.length (fun j => wtL (xs.getD j w0)) 4 (25 : TypeId)]
 else bif decide (w.whi + quoZ ((l ((0 : Int) + i)).hhi + w.flo - (1 : Int)) w.flo > (100000 : Int)) then
 X VEx.ret [I i, I k, I ((↑n : Int) + (1 : Int)), VV.yld 15, VV.ptr (VA.own 6 0), VV.ptr (VA.own 7 0), VV.ptr (VA.own 8 0)] [ptsA n l, VB.cells [I f.flo, I f.fhi, I f.wlo, I f.whi] (25 : TypeId), VB.cells [VV.slice (VA.el 0 [] (0 : Int) 0) n cap] (26 : TypeId), VB.cells [I at'] (3 : TypeId), VB.cells [I lim] (3 : TypeId), VB.cells [I (mP heat).k, I (mP heat).flo, I (mP heat).fhi, I (mP heat).wlo, I (mP heat).whi, I (mP heat).hlo, I (mP heat).hhi, I (mP heat).slo, I (mP heat).shi] (47 : TypeId), VB.cells [VV.slice (VA.el 0 [] (0 : Int) 0) n cap] (26 : TypeId), VB.cells [I at'] (3 : TypeId), VB.cells [VV.ptr (VA.own 5 0)] (78 : TypeId), VB.cells [VV.nils] (29 : TypeId), VB.cells [I k] (3 : TypeId), VB.cells [I 12] (30 : TypeId), VB.cells [I w.flo, I w.fhi, I (w.wlo + quoZ (l ((0 : Int) + i)).hlo w.fhi), I (w.whi + quoZ ((l ((0 : Int) + i)).hhi + w.flo - (1 : Int)) w.flo)] (89 : TypeId), VB.cells [VV.ptr (VA.own 13 0)] (87 : TypeId), VB.loop false (some VEx.ret) (slG f) 67 [15, 16] as35 bd35, VB.vec xs.length (fun j => wtL (xs.getD j w0)) 4 (25 : TypeId)]
 else bif xs.length.beq xs.length then
 bif roomB (xs.length + 1) (32) then
 bif inK IntKind.i64 (k + (1 : Int)) then
 bif inK IntKind.i64 (i + (1 : Int)) then
 X VEx.normal [I (i + (1 : Int)), I (k + (1 : Int)), I ((↑n : Int) + (1 : Int)), VV.yld 15, VV.ptr (VA.own 6 0), VV.ptr (VA.own 7 0), VV.ptr (VA.own 8 0)] [ptsA n l, VB.cells [I f.flo, I f.fhi, I f.wlo, I f.whi] (25 : TypeId), VB.cells [VV.slice (VA.el 0 [] (0 : Int) 0) n cap] (26 : TypeId), VB.cells [I at'] (3 : TypeId), VB.cells [I lim] (3 : TypeId), VB.cells [I (mP heat).k, I (mP heat).flo, I (mP heat).fhi, I (mP heat).wlo, I (mP heat).whi, I (mP heat).hlo, I (mP heat).hhi, I (mP heat).slo, I (mP heat).shi] (47 : TypeId), VB.cells [VV.slice (VA.el 0 [] (0 : Int) 0) n cap] (26 : TypeId), VB.cells [I at'] (3 : TypeId), VB.cells [VV.ptr (VA.own 5 0)] (78 : TypeId), VB.cells [VV.sl 16 (xs.length + 1)] (29 : TypeId), VB.cells [I 0] (3 : TypeId), VB.cells [I 0] (30 : TypeId), VB.cells [I w.flo, I w.fhi, I (w.wlo + quoZ (l ((0 : Int) + i)).hlo w.fhi), I (w.whi + quoZ ((l ((0 : Int) + i)).hhi + w.flo - (1 : Int)) w.flo)] (89 : TypeId), VB.cells [VV.ptr (VA.own 13 0)] (87 : TypeId), VB.loop true none (slG f) 67 [15, 16] as35 bd35, VB.vec (xs.length + 1) (catG xs.length (fun j => wtL (xs.getD j w0)) fun j => List.take (4) (List.drop (j * (4)) [I w.flo, I w.fhi, I (w.wlo + quoZ (l ((0 : Int) + i)).hlo w.fhi), I (w.whi + quoZ ((l ((0 : Int) + i)).hhi + w.flo - (1 : Int)) w.flo)])) (4) 25]
 else False
 else False
 else False
 else False
 else False
 else False
 else False
 else bif decide ((l ((0 : Int) + i)).k = (3 : Int)) then
 bif spanB (l ((0 : Int) + i)).wlo (l ((0 : Int) + i)).whi (0 : Int) (100000 : Int) then
 bif !spanB (l ((0 : Int) + i)).slo (l ((0 : Int) + i)).shi (0 : Int) (10000 : Int) then
 X VEx.ret [I i, I k, I ((↑n : Int) + (1 : Int)), VV.yld 15, VV.ptr (VA.own 6 0), VV.ptr (VA.own 7 0), VV.ptr (VA.own 8 0)] [ptsA n l, VB.cells [I f.flo, I f.fhi, I f.wlo, I f.whi] (25 : TypeId), VB.cells [VV.slice (VA.el 0 [] (0 : Int) 0) n cap] (26 : TypeId), VB.cells [I at'] (3 : TypeId), VB.cells [I lim] (3 : TypeId), VB.cells [I (mP heat).k, I (mP heat).flo, I (mP heat).fhi, I (mP heat).wlo, I (mP heat).whi, I (mP heat).hlo, I (mP heat).hhi, I (mP heat).slo, I (mP heat).shi] (47 : TypeId), VB.cells [VV.slice (VA.el 0 [] (0 : Int) 0) n cap] (26 : TypeId), VB.cells [I at'] (3 : TypeId), VB.cells [VV.ptr (VA.own 5 0)] (78 : TypeId), VB.cells [VV.nils] (29 : TypeId), VB.cells [I k] (3 : TypeId), VB.cells [I 1] (30 : TypeId), VB.cells [I w.flo, I w.fhi, I w.wlo, I w.whi] (89 : TypeId), VB.cells [VV.ptr (VA.own 13 0)] (87 : TypeId), VB.loop false (some VEx.ret) (slG f) 67 [15, 16] as35 bd35, VB.vec xs.length (fun j => wtL (xs.getD j w0)) 4 (25 : TypeId)]
 else bif decide (w.wlo > (l ((0 : Int) + i)).wlo) then
 bif decide (w.whi > (l ((0 : Int) + i)).whi) then
 bif inK IntKind.i64 ((10000 : Int) - (l ((0 : Int) + i)).shi) then
 meanOk w.wlo ((10000 : Int) - (l ((0 : Int) + i)).shi) (l ((0 : Int) + i)).wlo (l ((0 : Int) + i)).shi ∧ bif inK IntKind.i64 ((10000 : Int) - (l ((0 : Int) + i)).slo) then
 meanOk w.whi ((10000 : Int) - (l ((0 : Int) + i)).slo) (l ((0 : Int) + i)).whi (l ((0 : Int) + i)).slo ∧ bif decide (w.flo < (1 : Int)) then
 X VEx.ret [I i, I k, I ((↑n : Int) + (1 : Int)), VV.yld 15, VV.ptr (VA.own 6 0), VV.ptr (VA.own 7 0), VV.ptr (VA.own 8 0)] [ptsA n l, VB.cells [I f.flo, I f.fhi, I f.wlo, I f.whi] (25 : TypeId), VB.cells [VV.slice (VA.el 0 [] (0 : Int) 0) n cap] (26 : TypeId), VB.cells [I at'] (3 : TypeId), VB.cells [I lim] (3 : TypeId), VB.cells [I (mP heat).k, I (mP heat).flo, I (mP heat).fhi, I (mP heat).wlo, I (mP heat).whi, I (mP heat).hlo, I (mP heat).hhi, I (mP heat).slo, I (mP heat).shi] (47 : TypeId), VB.cells [VV.slice (VA.el 0 [] (0 : Int) 0) n cap] (26 : TypeId), VB.cells [I at'] (3 : TypeId), VB.cells [VV.ptr (VA.own 5 0)] (78 : TypeId), VB.cells [VV.nils] (29 : TypeId), VB.cells [I k] (3 : TypeId), VB.cells [I 10] (30 : TypeId), VB.cells [I w.flo, I w.fhi, I (mD w.wlo ((10000 : Int) - (l ((0 : Int) + i)).shi) (l ((0 : Int) + i)).wlo (l ((0 : Int) + i)).shi), I (mU w.whi ((10000 : Int) - (l ((0 : Int) + i)).slo) (l ((0 : Int) + i)).whi (l ((0 : Int) + i)).slo)] (89 : TypeId), VB.cells [VV.ptr (VA.own 13 0)] (87 : TypeId), VB.loop false (some VEx.ret) (slG f) 67 [15, 16] as35 bd35, VB.vec xs.length (fun j => wtL (xs.getD j w0)) 4 (25 : TypeId)]
 else bif decide (w.fhi > (1073741824 : Int)) then
 X VEx.ret [I i, I k, I ((↑n : Int) + (1 : Int)), VV.yld 15, VV.ptr (VA.own 6 0), VV.ptr (VA.own 7 0), VV.ptr (VA.own 8 0)] [ptsA n l, VB.cells [I f.flo, I f.fhi, I f.wlo, I f.whi] (25 : TypeId), VB.cells [VV.slice (VA.el 0 [] (0 : Int) 0) n cap] (26 : TypeId), VB.cells [I at'] (3 : TypeId), VB.cells [I lim] (3 : TypeId), VB.cells [I (mP heat).k, I (mP heat).flo, I (mP heat).fhi, I (mP heat).wlo, I (mP heat).whi, I (mP heat).hlo, I (mP heat).hhi, I (mP heat).slo, I (mP heat).shi] (47 : TypeId), VB.cells [VV.slice (VA.el 0 [] (0 : Int) 0) n cap] (26 : TypeId), VB.cells [I at'] (3 : TypeId), VB.cells [VV.ptr (VA.own 5 0)] (78 : TypeId), VB.cells [VV.nils] (29 : TypeId), VB.cells [I k] (3 : TypeId), VB.cells [I 12] (30 : TypeId), VB.cells [I w.flo, I w.fhi, I (mD w.wlo ((10000 : Int) - (l ((0 : Int) + i)).shi) (l ((0 : Int) + i)).wlo (l ((0 : Int) + i)).shi), I (mU w.whi ((10000 : Int) - (l ((0 : Int) + i)).slo) (l ((0 : Int) + i)).whi (l ((0 : Int) + i)).slo)] (89 : TypeId), VB.cells [VV.ptr (VA.own 13 0)] (87 : TypeId), VB.loop false (some VEx.ret) (slG f) 67 [15, 16] as35 bd35, VB.vec xs.length (fun j => wtL (xs.getD j w0)) 4 (25 : TypeId)]
 else bif decide (mU w.whi ((10000 : Int) - (l ((0 : Int) + i)).slo) (l ((0 : Int) + i)).whi (l ((0 : Int) + i)).slo > (100000 : Int)) then
 X VEx.ret [I i, I k, I ((↑n : Int) + (1 : Int)), VV.yld 15, VV.ptr (VA.own 6 0), VV.ptr (VA.own 7 0), VV.ptr (VA.own 8 0)] [ptsA n l, VB.cells [I f.flo, I f.fhi, I f.wlo, I f.whi] (25 : TypeId), VB.cells [VV.slice (VA.el 0 [] (0 : Int) 0) n cap] (26 : TypeId), VB.cells [I at'] (3 : TypeId), VB.cells [I lim] (3 : TypeId), VB.cells [I (mP heat).k, I (mP heat).flo, I (mP heat).fhi, I (mP heat).wlo, I (mP heat).whi, I (mP heat).hlo, I (mP heat).hhi, I (mP heat).slo, I (mP heat).shi] (47 : TypeId), VB.cells [VV.slice (VA.el 0 [] (0 : Int) 0) n cap] (26 : TypeId), VB.cells [I at'] (3 : TypeId), VB.cells [VV.ptr (VA.own 5 0)] (78 : TypeId), VB.cells [VV.nils] (29 : TypeId), VB.cells [I k] (3 : TypeId), VB.cells [I 12] (30 : TypeId), VB.cells [I w.flo, I w.fhi, I (mD w.wlo ((10000 : Int) - (l ((0 : Int) + i)).shi) (l ((0 : Int) + i)).wlo (l ((0 : Int) + i)).shi), I (mU w.whi ((10000 : Int) - (l ((0 : Int) + i)).slo) (l ((0 : Int) + i)).whi (l ((0 : Int) + i)).slo)] (89 : TypeId), VB.cells [VV.ptr (VA.own 13 0)] (87 : TypeId), VB.loop false (some VEx.ret) (slG f) 67 [15, 16] as35 bd35, VB.vec xs.length (fun j => wtL (xs.getD j w0)) 4 (25 : TypeId)]
 else bif xs.length.beq xs.length then
 bif roomB (xs.length + 1) (32) then
 bif inK IntKind.i64 (k + (1 : Int)) then
 bif inK IntKind.i64 (i + (1 : Int)) then
 X VEx.normal [I (i + (1 : Int)), I (k + (1 : Int)), I ((↑n : Int) + (1 : Int)), VV.yld 15, VV.ptr (VA.own 6 0), VV.ptr (VA.own 7 0), VV.ptr (VA.own 8 0)] [ptsA n l, VB.cells [I f.flo, I f.fhi, I f.wlo, I f.whi] (25 : TypeId), VB.cells [VV.slice (VA.el 0 [] (0 : Int) 0) n cap] (26 : TypeId), VB.cells [I at'] (3 : TypeId), VB.cells [I lim] (3 : TypeId), VB.cells [I (mP heat).k, I (mP heat).flo, I (mP heat).fhi, I (mP heat).wlo, I (mP heat).whi, I (mP heat).hlo, I (mP heat).hhi, I (mP heat).slo, I (mP heat).shi] (47 : TypeId), VB.cells [VV.slice (VA.el 0 [] (0 : Int) 0) n cap] (26 : TypeId), VB.cells [I at'] (3 : TypeId), VB.cells [VV.ptr (VA.own 5 0)] (78 : TypeId), VB.cells [VV.sl 16 (xs.length + 1)] (29 : TypeId), VB.cells [I 0] (3 : TypeId), VB.cells [I 0] (30 : TypeId), VB.cells [I w.flo, I w.fhi, I (mD w.wlo ((10000 : Int) - (l ((0 : Int) + i)).shi) (l ((0 : Int) + i)).wlo (l ((0 : Int) + i)).shi), I (mU w.whi ((10000 : Int) - (l ((0 : Int) + i)).slo) (l ((0 : Int) + i)).whi (l ((0 : Int) + i)).slo)] (89 : TypeId), VB.cells [VV.ptr (VA.own 13 0)] (87 : TypeId), VB.loop true none (slG f) 67 [15, 16] as35 bd35, VB.vec (xs.length + 1) (catG xs.length (fun j => wtL (xs.getD j w0)) fun j => List.take (4) (List.drop (j * (4)) [I w.flo, I w.fhi, I (mD w.wlo ((10000 : Int) - (l ((0 : Int) + i)).shi) (l ((0 : Int) + i)).wlo (l ((0 : Int) + i)).shi), I (mU w.whi ((10000 : Int) - (l ((0 : Int) + i)).slo) (l ((0 : Int) + i)).whi (l ((0 : Int) + i)).slo)])) (4) 25]
 else False
 else False
 else False
 else False
 else False
 else False
 else bif inK IntKind.i64 ((10000 : Int) - (l ((0 : Int) + i)).shi) then
 meanOk w.wlo ((10000 : Int) - (l ((0 : Int) + i)).shi) (l ((0 : Int) + i)).wlo (l ((0 : Int) + i)).shi ∧ bif inK IntKind.i64 ((10000 : Int) - (l ((0 : Int) + i)).shi) then
 meanOk w.whi ((10000 : Int) - (l ((0 : Int) + i)).shi) (l ((0 : Int) + i)).whi (l ((0 : Int) + i)).shi ∧ bif decide (w.flo < (1 : Int)) then
 X VEx.ret [I i, I k, I ((↑n : Int) + (1 : Int)), VV.yld 15, VV.ptr (VA.own 6 0), VV.ptr (VA.own 7 0), VV.ptr (VA.own 8 0)] [ptsA n l, VB.cells [I f.flo, I f.fhi, I f.wlo, I f.whi] (25 : TypeId), VB.cells [VV.slice (VA.el 0 [] (0 : Int) 0) n cap] (26 : TypeId), VB.cells [I at'] (3 : TypeId), VB.cells [I lim] (3 : TypeId), VB.cells [I (mP heat).k, I (mP heat).flo, I (mP heat).fhi, I (mP heat).wlo, I (mP heat).whi, I (mP heat).hlo, I (mP heat).hhi, I (mP heat).slo, I (mP heat).shi] (47 : TypeId), VB.cells [VV.slice (VA.el 0 [] (0 : Int) 0) n cap] (26 : TypeId), VB.cells [I at'] (3 : TypeId), VB.cells [VV.ptr (VA.own 5 0)] (78 : TypeId), VB.cells [VV.nils] (29 : TypeId), VB.cells [I k] (3 : TypeId), VB.cells [I 10] (30 : TypeId), VB.cells [I w.flo, I w.fhi, I (mD w.wlo ((10000 : Int) - (l ((0 : Int) + i)).shi) (l ((0 : Int) + i)).wlo (l ((0 : Int) + i)).shi), I (mU w.whi ((10000 : Int) - (l ((0 : Int) + i)).shi) (l ((0 : Int) + i)).whi (l ((0 : Int) + i)).shi)] (89 : TypeId), VB.cells [VV.ptr (VA.own 13 0)] (87 : TypeId), VB.loop false (some VEx.ret) (slG f) 67 [15, 16] as35 bd35, VB.vec xs.length (fun j => wtL (xs.getD j w0)) 4 (25 : TypeId)]
 else bif decide (w.fhi > (1073741824 : Int)) then
 X VEx.ret [I i, I k, I ((↑n : Int) + (1 : Int)), VV.yld 15, VV.ptr (VA.own 6 0), VV.ptr (VA.own 7 0), VV.ptr (VA.own 8 0)] [ptsA n l, VB.cells [I f.flo, I f.fhi, I f.wlo, I f.whi] (25 : TypeId), VB.cells [VV.slice (VA.el 0 [] (0 : Int) 0) n cap] (26 : TypeId), VB.cells [I at'] (3 : TypeId), VB.cells [I lim] (3 : TypeId), VB.cells [I (mP heat).k, I (mP heat).flo, I (mP heat).fhi, I (mP heat).wlo, I (mP heat).whi, I (mP heat).hlo, I (mP heat).hhi, I (mP heat).slo, I (mP heat).shi] (47 : TypeId), VB.cells [VV.slice (VA.el 0 [] (0 : Int) 0) n cap] (26 : TypeId), VB.cells [I at'] (3 : TypeId), VB.cells [VV.ptr (VA.own 5 0)] (78 : TypeId), VB.cells [VV.nils] (29 : TypeId), VB.cells [I k] (3 : TypeId), VB.cells [I 12] (30 : TypeId), VB.cells [I w.flo, I w.fhi, I (mD w.wlo ((10000 : Int) - (l ((0 : Int) + i)).shi) (l ((0 : Int) + i)).wlo (l ((0 : Int) + i)).shi), I (mU w.whi ((10000 : Int) - (l ((0 : Int) + i)).shi) (l ((0 : Int) + i)).whi (l ((0 : Int) + i)).shi)] (89 : TypeId), VB.cells [VV.ptr (VA.own 13 0)] (87 : TypeId), VB.loop false (some VEx.ret) (slG f) 67 [15, 16] as35 bd35, VB.vec xs.length (fun j => wtL (xs.getD j w0)) 4 (25 : TypeId)]
 else bif decide (mU w.whi ((10000 : Int) - (l ((0 : Int) + i)).shi) (l ((0 : Int) + i)).whi (l ((0 : Int) + i)).shi > (100000 : Int)) then
 X VEx.ret [I i, I k, I ((↑n : Int) + (1 : Int)), VV.yld 15, VV.ptr (VA.own 6 0), VV.ptr (VA.own 7 0), VV.ptr (VA.own 8 0)] [ptsA n l, VB.cells [I f.flo, I f.fhi, I f.wlo, I f.whi] (25 : TypeId), VB.cells [VV.slice (VA.el 0 [] (0 : Int) 0) n cap] (26 : TypeId), VB.cells [I at'] (3 : TypeId), VB.cells [I lim] (3 : TypeId), VB.cells [I (mP heat).k, I (mP heat).flo, I (mP heat).fhi, I (mP heat).wlo, I (mP heat).whi, I (mP heat).hlo, I (mP heat).hhi, I (mP heat).slo, I (mP heat).shi] (47 : TypeId), VB.cells [VV.slice (VA.el 0 [] (0 : Int) 0) n cap] (26 : TypeId), VB.cells [I at'] (3 : TypeId), VB.cells [VV.ptr (VA.own 5 0)] (78 : TypeId), VB.cells [VV.nils] (29 : TypeId), VB.cells [I k] (3 : TypeId), VB.cells [I 12] (30 : TypeId), VB.cells [I w.flo, I w.fhi, I (mD w.wlo ((10000 : Int) - (l ((0 : Int) + i)).shi) (l ((0 : Int) + i)).wlo (l ((0 : Int) + i)).shi), I (mU w.whi ((10000 : Int) - (l ((0 : Int) + i)).shi) (l ((0 : Int) + i)).whi (l ((0 : Int) + i)).shi)] (89 : TypeId), VB.cells [VV.ptr (VA.own 13 0)] (87 : TypeId), VB.loop false (some VEx.ret) (slG f) 67 [15, 16] as35 bd35, VB.vec xs.length (fun j => wtL (xs.getD j w0)) 4 (25 : TypeId)]
 else bif xs.length.beq xs.length then
 bif roomB (xs.length + 1) (32) then
 bif inK IntKind.i64 (k + (1 : Int)) then
 bif inK IntKind.i64 (i + (1 : Int)) then
 X VEx.normal [I (i + (1 : Int)), I (k + (1 : Int)), I ((↑n : Int) + (1 : Int)), VV.yld 15, VV.ptr (VA.own 6 0), VV.ptr (VA.own 7 0), VV.ptr (VA.own 8 0)] [ptsA n l, VB.cells [I f.flo, I f.fhi, I f.wlo, I f.whi] (25 : TypeId), VB.cells [VV.slice (VA.el 0 [] (0 : Int) 0) n cap] (26 : TypeId), VB.cells [I at'] (3 : TypeId), VB.cells [I lim] (3 : TypeId), VB.cells [I (mP heat).k, I (mP heat).flo, I (mP heat).fhi, I (mP heat).wlo, I (mP heat).whi, I (mP heat).hlo, I (mP heat).hhi, I (mP heat).slo, I (mP heat).shi] (47 : TypeId), VB.cells [VV.slice (VA.el 0 [] (0 : Int) 0) n cap] (26 : TypeId), VB.cells [I at'] (3 : TypeId), VB.cells [VV.ptr (VA.own 5 0)] (78 : TypeId), VB.cells [VV.sl 16 (xs.length + 1)] (29 : TypeId), VB.cells [I 0] (3 : TypeId), VB.cells [I 0] (30 : TypeId), VB.cells [I w.flo, I w.fhi, I (mD w.wlo ((10000 : Int) - (l ((0 : Int) + i)).shi) (l ((0 : Int) + i)).wlo (l ((0 : Int) + i)).shi), I (mU w.whi ((10000 : Int) - (l ((0 : Int) + i)).shi) (l ((0 : Int) + i)).whi (l ((0 : Int) + i)).shi)] (89 : TypeId), VB.cells [VV.ptr (VA.own 13 0)] (87 : TypeId), VB.loop true none (slG f) 67 [15, 16] as35 bd35, VB.vec (xs.length + 1) (catG xs.length (fun j => wtL (xs.getD j w0)) fun j => List.take (4) (List.drop (j * (4)) [I w.flo, I w.fhi, I (mD w.wlo ((10000 : Int) - (l ((0 : Int) + i)).shi) (l ((0 : Int) + i)).wlo (l ((0 : Int) + i)).shi), I (mU w.whi ((10000 : Int) - (l ((0 : Int) + i)).shi) (l ((0 : Int) + i)).whi (l ((0 : Int) + i)).shi)])) (4) 25]
 else False
 else False
 else False
 else False
 else False
 else False
 else bif decide (w.whi > (l ((0 : Int) + i)).whi) then
 bif inK IntKind.i64 ((10000 : Int) - (l ((0 : Int) + i)).slo) then
 meanOk w.wlo ((10000 : Int) - (l ((0 : Int) + i)).slo) (l ((0 : Int) + i)).wlo (l ((0 : Int) + i)).slo ∧ bif inK IntKind.i64 ((10000 : Int) - (l ((0 : Int) + i)).slo) then
 meanOk w.whi ((10000 : Int) - (l ((0 : Int) + i)).slo) (l ((0 : Int) + i)).whi (l ((0 : Int) + i)).slo ∧ bif decide (w.flo < (1 : Int)) then
 X VEx.ret [I i, I k, I ((↑n : Int) + (1 : Int)), VV.yld 15, VV.ptr (VA.own 6 0), VV.ptr (VA.own 7 0), VV.ptr (VA.own 8 0)] [ptsA n l, VB.cells [I f.flo, I f.fhi, I f.wlo, I f.whi] (25 : TypeId), VB.cells [VV.slice (VA.el 0 [] (0 : Int) 0) n cap] (26 : TypeId), VB.cells [I at'] (3 : TypeId), VB.cells [I lim] (3 : TypeId), VB.cells [I (mP heat).k, I (mP heat).flo, I (mP heat).fhi, I (mP heat).wlo, I (mP heat).whi, I (mP heat).hlo, I (mP heat).hhi, I (mP heat).slo, I (mP heat).shi] (47 : TypeId), VB.cells [VV.slice (VA.el 0 [] (0 : Int) 0) n cap] (26 : TypeId), VB.cells [I at'] (3 : TypeId), VB.cells [VV.ptr (VA.own 5 0)] (78 : TypeId), VB.cells [VV.nils] (29 : TypeId), VB.cells [I k] (3 : TypeId), VB.cells [I 10] (30 : TypeId), VB.cells [I w.flo, I w.fhi, I (mD w.wlo ((10000 : Int) - (l ((0 : Int) + i)).slo) (l ((0 : Int) + i)).wlo (l ((0 : Int) + i)).slo), I (mU w.whi ((10000 : Int) - (l ((0 : Int) + i)).slo) (l ((0 : Int) + i)).whi (l ((0 : Int) + i)).slo)] (89 : TypeId), VB.cells [VV.ptr (VA.own 13 0)] (87 : TypeId), VB.loop false (some VEx.ret) (slG f) 67 [15, 16] as35 bd35, VB.vec xs.length (fun j => wtL (xs.getD j w0)) 4 (25 : TypeId)]
 else bif decide (w.fhi > (1073741824 : Int)) then
 X VEx.ret [I i, I k, I ((↑n : Int) + (1 : Int)), VV.yld 15, VV.ptr (VA.own 6 0), VV.ptr (VA.own 7 0), VV.ptr (VA.own 8 0)] [ptsA n l, VB.cells [I f.flo, I f.fhi, I f.wlo, I f.whi] (25 : TypeId), VB.cells [VV.slice (VA.el 0 [] (0 : Int) 0) n cap] (26 : TypeId), VB.cells [I at'] (3 : TypeId), VB.cells [I lim] (3 : TypeId), VB.cells [I (mP heat).k, I (mP heat).flo, I (mP heat).fhi, I (mP heat).wlo, I (mP heat).whi, I (mP heat).hlo, I (mP heat).hhi, I (mP heat).slo, I (mP heat).shi] (47 : TypeId), VB.cells [VV.slice (VA.el 0 [] (0 : Int) 0) n cap] (26 : TypeId), VB.cells [I at'] (3 : TypeId), VB.cells [VV.ptr (VA.own 5 0)] (78 : TypeId), VB.cells [VV.nils] (29 : TypeId), VB.cells [I k] (3 : TypeId), VB.cells [I 12] (30 : TypeId), VB.cells [I w.flo, I w.fhi, I (mD w.wlo ((10000 : Int) - (l ((0 : Int) + i)).slo) (l ((0 : Int) + i)).wlo (l ((0 : Int) + i)).slo), I (mU w.whi ((10000 : Int) - (l ((0 : Int) + i)).slo) (l ((0 : Int) + i)).whi (l ((0 : Int) + i)).slo)] (89 : TypeId), VB.cells [VV.ptr (VA.own 13 0)] (87 : TypeId), VB.loop false (some VEx.ret) (slG f) 67 [15, 16] as35 bd35, VB.vec xs.length (fun j => wtL (xs.getD j w0)) 4 (25 : TypeId)]
 else bif decide (mU w.whi ((10000 : Int) - (l ((0 : Int) + i)).slo) (l ((0 : Int) + i)).whi (l ((0 : Int) + i)).slo > (100000 : Int)) then
 X VEx.ret [I i, I k, I ((↑n : Int) + (1 : Int)), VV.yld 15, VV.ptr (VA.own 6 0), VV.ptr (VA.own 7 0), VV.ptr (VA.own 8 0)] [ptsA n l, VB.cells [I f.flo, I f.fhi, I f.wlo, I f.whi] (25 : TypeId), VB.cells [VV.slice (VA.el 0 [] (0 : Int) 0) n cap] (26 : TypeId), VB.cells [I at'] (3 : TypeId), VB.cells [I lim] (3 : TypeId), VB.cells [I (mP heat).k, I (mP heat).flo, I (mP heat).fhi, I (mP heat).wlo, I (mP heat).whi, I (mP heat).hlo, I (mP heat).hhi, I (mP heat).slo, I (mP heat).shi] (47 : TypeId), VB.cells [VV.slice (VA.el 0 [] (0 : Int) 0) n cap] (26 : TypeId), VB.cells [I at'] (3 : TypeId), VB.cells [VV.ptr (VA.own 5 0)] (78 : TypeId), VB.cells [VV.nils] (29 : TypeId), VB.cells [I k] (3 : TypeId), VB.cells [I 12] (30 : TypeId), VB.cells [I w.flo, I w.fhi, I (mD w.wlo ((10000 : Int) - (l ((0 : Int) + i)).slo) (l ((0 : Int) + i)).wlo (l ((0 : Int) + i)).slo), I (mU w.whi ((10000 : Int) - (l ((0 : Int) + i)).slo) (l ((0 : Int) + i)).whi (l ((0 : Int) + i)).slo)] (89 : TypeId), VB.cells [VV.ptr (VA.own 13 0)] (87 : TypeId), VB.loop false (some VEx.ret) (slG f) 67 [15, 16] as35 bd35, VB.vec xs.length (fun j => wtL (xs.getD j w0)) 4 (25 : TypeId)]
 else bif xs.length.beq xs.length then
 bif roomB (xs.length + 1) (32) then
 bif inK IntKind.i64 (k + (1 : Int)) then
 bif inK IntKind.i64 (i + (1 : Int)) then
 X VEx.normal [I (i + (1 : Int)), I (k + (1 : Int)), I ((↑n : Int) + (1 : Int)), VV.yld 15, VV.ptr (VA.own 6 0), VV.ptr (VA.own 7 0), VV.ptr (VA.own 8 0)] [ptsA n l, VB.cells [I f.flo, I f.fhi, I f.wlo, I f.whi] (25 : TypeId), VB.cells [VV.slice (VA.el 0 [] (0 : Int) 0) n cap] (26 : TypeId), VB.cells [I at'] (3 : TypeId), VB.cells [I lim] (3 : TypeId), VB.cells [I (mP heat).k, I (mP heat).flo, I (mP heat).fhi, I (mP heat).wlo, I (mP heat).whi, I (mP heat).hlo, I (mP heat).hhi, I (mP heat).slo, I (mP heat).shi] (47 : TypeId), VB.cells [VV.slice (VA.el 0 [] (0 : Int) 0) n cap] (26 : TypeId), VB.cells [I at'] (3 : TypeId), VB.cells [VV.ptr (VA.own 5 0)] (78 : TypeId), VB.cells [VV.sl 16 (xs.length + 1)] (29 : TypeId), VB.cells [I 0] (3 : TypeId), VB.cells [I 0] (30 : TypeId), VB.cells [I w.flo, I w.fhi, I (mD w.wlo ((10000 : Int) - (l ((0 : Int) + i)).slo) (l ((0 : Int) + i)).wlo (l ((0 : Int) + i)).slo), I (mU w.whi ((10000 : Int) - (l ((0 : Int) + i)).slo) (l ((0 : Int) + i)).whi (l ((0 : Int) + i)).slo)] (89 : TypeId), VB.cells [VV.ptr (VA.own 13 0)] (87 : TypeId), VB.loop true none (slG f) 67 [15, 16] as35 bd35, VB.vec (xs.length + 1) (catG xs.length (fun j => wtL (xs.getD j w0)) fun j => List.take (4) (List.drop (j * (4)) [I w.flo, I w.fhi, I (mD w.wlo ((10000 : Int) - (l ((0 : Int) + i)).slo) (l ((0 : Int) + i)).wlo (l ((0 : Int) + i)).slo), I (mU w.whi ((10000 : Int) - (l ((0 : Int) + i)).slo) (l ((0 : Int) + i)).whi (l ((0 : Int) + i)).slo)])) (4) 25]
 else False
 else False
 else False
 else False
 else False
 else False
 else bif inK IntKind.i64 ((10000 : Int) - (l ((0 : Int) + i)).slo) then
 meanOk w.wlo ((10000 : Int) - (l ((0 : Int) + i)).slo) (l ((0 : Int) + i)).wlo (l ((0 : Int) + i)).slo ∧ bif inK IntKind.i64 ((10000 : Int) - (l ((0 : Int) + i)).shi) then
 meanOk w.whi ((10000 : Int) - (l ((0 : Int) + i)).shi) (l ((0 : Int) + i)).whi (l ((0 : Int) + i)).shi ∧ bif decide (w.flo < (1 : Int)) then
 X VEx.ret [I i, I k, I ((↑n : Int) + (1 : Int)), VV.yld 15, VV.ptr (VA.own 6 0), VV.ptr (VA.own 7 0), VV.ptr (VA.own 8 0)] [ptsA n l, VB.cells [I f.flo, I f.fhi, I f.wlo, I f.whi] (25 : TypeId), VB.cells [VV.slice (VA.el 0 [] (0 : Int) 0) n cap] (26 : TypeId), VB.cells [I at'] (3 : TypeId), VB.cells [I lim] (3 : TypeId), VB.cells [I (mP heat).k, I (mP heat).flo, I (mP heat).fhi, I (mP heat).wlo, I (mP heat).whi, I (mP heat).hlo, I (mP heat).hhi, I (mP heat).slo, I (mP heat).shi] (47 : TypeId), VB.cells [VV.slice (VA.el 0 [] (0 : Int) 0) n cap] (26 : TypeId), VB.cells [I at'] (3 : TypeId), VB.cells [VV.ptr (VA.own 5 0)] (78 : TypeId), VB.cells [VV.nils] (29 : TypeId), VB.cells [I k] (3 : TypeId), VB.cells [I 10] (30 : TypeId), VB.cells [I w.flo, I w.fhi, I (mD w.wlo ((10000 : Int) - (l ((0 : Int) + i)).slo) (l ((0 : Int) + i)).wlo (l ((0 : Int) + i)).slo), I (mU w.whi ((10000 : Int) - (l ((0 : Int) + i)).shi) (l ((0 : Int) + i)).whi (l ((0 : Int) + i)).shi)] (89 : TypeId), VB.cells [VV.ptr (VA.own 13 0)] (87 : TypeId), VB.loop false (some VEx.ret) (slG f) 67 [15, 16] as35 bd35, VB.vec xs.length (fun j => wtL (xs.getD j w0)) 4 (25 : TypeId)]
 else bif decide (w.fhi > (1073741824 : Int)) then
 X VEx.ret [I i, I k, I ((↑n : Int) + (1 : Int)), VV.yld 15, VV.ptr (VA.own 6 0), VV.ptr (VA.own 7 0), VV.ptr (VA.own 8 0)] [ptsA n l, VB.cells [I f.flo, I f.fhi, I f.wlo, I f.whi] (25 : TypeId), VB.cells [VV.slice (VA.el 0 [] (0 : Int) 0) n cap] (26 : TypeId), VB.cells [I at'] (3 : TypeId), VB.cells [I lim] (3 : TypeId), VB.cells [I (mP heat).k, I (mP heat).flo, I (mP heat).fhi, I (mP heat).wlo, I (mP heat).whi, I (mP heat).hlo, I (mP heat).hhi, I (mP heat).slo, I (mP heat).shi] (47 : TypeId), VB.cells [VV.slice (VA.el 0 [] (0 : Int) 0) n cap] (26 : TypeId), VB.cells [I at'] (3 : TypeId), VB.cells [VV.ptr (VA.own 5 0)] (78 : TypeId), VB.cells [VV.nils] (29 : TypeId), VB.cells [I k] (3 : TypeId), VB.cells [I 12] (30 : TypeId), VB.cells [I w.flo, I w.fhi, I (mD w.wlo ((10000 : Int) - (l ((0 : Int) + i)).slo) (l ((0 : Int) + i)).wlo (l ((0 : Int) + i)).slo), I (mU w.whi ((10000 : Int) - (l ((0 : Int) + i)).shi) (l ((0 : Int) + i)).whi (l ((0 : Int) + i)).shi)] (89 : TypeId), VB.cells [VV.ptr (VA.own 13 0)] (87 : TypeId), VB.loop false (some VEx.ret) (slG f) 67 [15, 16] as35 bd35, VB.vec xs.length (fun j => wtL (xs.getD j w0)) 4 (25 : TypeId)]
 else bif decide (mU w.whi ((10000 : Int) - (l ((0 : Int) + i)).shi) (l ((0 : Int) + i)).whi (l ((0 : Int) + i)).shi > (100000 : Int)) then
 X VEx.ret [I i, I k, I ((↑n : Int) + (1 : Int)), VV.yld 15, VV.ptr (VA.own 6 0), VV.ptr (VA.own 7 0), VV.ptr (VA.own 8 0)] [ptsA n l, VB.cells [I f.flo, I f.fhi, I f.wlo, I f.whi] (25 : TypeId), VB.cells [VV.slice (VA.el 0 [] (0 : Int) 0) n cap] (26 : TypeId), VB.cells [I at'] (3 : TypeId), VB.cells [I lim] (3 : TypeId), VB.cells [I (mP heat).k, I (mP heat).flo, I (mP heat).fhi, I (mP heat).wlo, I (mP heat).whi, I (mP heat).hlo, I (mP heat).hhi, I (mP heat).slo, I (mP heat).shi] (47 : TypeId), VB.cells [VV.slice (VA.el 0 [] (0 : Int) 0) n cap] (26 : TypeId), VB.cells [I at'] (3 : TypeId), VB.cells [VV.ptr (VA.own 5 0)] (78 : TypeId), VB.cells [VV.nils] (29 : TypeId), VB.cells [I k] (3 : TypeId), VB.cells [I 12] (30 : TypeId), VB.cells [I w.flo, I w.fhi, I (mD w.wlo ((10000 : Int) - (l ((0 : Int) + i)).slo) (l ((0 : Int) + i)).wlo (l ((0 : Int) + i)).slo), I (mU w.whi ((10000 : Int) - (l ((0 : Int) + i)).shi) (l ((0 : Int) + i)).whi (l ((0 : Int) + i)).shi)] (89 : TypeId), VB.cells [VV.ptr (VA.own 13 0)] (87 : TypeId), VB.loop false (some VEx.ret) (slG f) 67 [15, 16] as35 bd35, VB.vec xs.length (fun j => wtL (xs.getD j w0)) 4 (25 : TypeId)]
 else bif xs.length.beq xs.length then
 bif roomB (xs.length + 1) (32) then
 bif inK IntKind.i64 (k + (1 : Int)) then
 bif inK IntKind.i64 (i + (1 : Int)) then
 X VEx.normal [I (i + (1 : Int)), I (k + (1 : Int)), I ((↑n : Int) + (1 : Int)), VV.yld 15, VV.ptr (VA.own 6 0), VV.ptr (VA.own 7 0), VV.ptr (VA.own 8 0)] [ptsA n l, VB.cells [I f.flo, I f.fhi, I f.wlo, I f.whi] (25 : TypeId), VB.cells [VV.slice (VA.el 0 [] (0 : Int) 0) n cap] (26 : TypeId), VB.cells [I at'] (3 : TypeId), VB.cells [I lim] (3 : TypeId), VB.cells [I (mP heat).k, I (mP heat).flo, I (mP heat).fhi, I (mP heat).wlo, I (mP heat).whi, I (mP heat).hlo, I (mP heat).hhi, I (mP heat).slo, I (mP heat).shi] (47 : TypeId), VB.cells [VV.slice (VA.el 0 [] (0 : Int) 0) n cap] (26 : TypeId), VB.cells [I at'] (3 : TypeId), VB.cells [VV.ptr (VA.own 5 0)] (78 : TypeId), VB.cells [VV.sl 16 (xs.length + 1)] (29 : TypeId), VB.cells [I 0] (3 : TypeId), VB.cells [I 0] (30 : TypeId), VB.cells [I w.flo, I w.fhi, I (mD w.wlo ((10000 : Int) - (l ((0 : Int) + i)).slo) (l ((0 : Int) + i)).wlo (l ((0 : Int) + i)).slo), I (mU w.whi ((10000 : Int) - (l ((0 : Int) + i)).shi) (l ((0 : Int) + i)).whi (l ((0 : Int) + i)).shi)] (89 : TypeId), VB.cells [VV.ptr (VA.own 13 0)] (87 : TypeId), VB.loop true none (slG f) 67 [15, 16] as35 bd35, VB.vec (xs.length + 1) (catG xs.length (fun j => wtL (xs.getD j w0)) fun j => List.take (4) (List.drop (j * (4)) [I w.flo, I w.fhi, I (mD w.wlo ((10000 : Int) - (l ((0 : Int) + i)).slo) (l ((0 : Int) + i)).wlo (l ((0 : Int) + i)).slo), I (mU w.whi ((10000 : Int) - (l ((0 : Int) + i)).shi) (l ((0 : Int) + i)).whi (l ((0 : Int) + i)).shi)])) (4) 25]
 else False
 else False
 else False
 else False
 else False
 else False
 else X VEx.ret [I i, I k, I ((↑n : Int) + (1 : Int)), VV.yld 15, VV.ptr (VA.own 6 0), VV.ptr (VA.own 7 0), VV.ptr (VA.own 8 0)] [ptsA n l, VB.cells [I f.flo, I f.fhi, I f.wlo, I f.whi] (25 : TypeId), VB.cells [VV.slice (VA.el 0 [] (0 : Int) 0) n cap] (26 : TypeId), VB.cells [I at'] (3 : TypeId), VB.cells [I lim] (3 : TypeId), VB.cells [I (mP heat).k, I (mP heat).flo, I (mP heat).fhi, I (mP heat).wlo, I (mP heat).whi, I (mP heat).hlo, I (mP heat).hhi, I (mP heat).slo, I (mP heat).shi] (47 : TypeId), VB.cells [VV.slice (VA.el 0 [] (0 : Int) 0) n cap] (26 : TypeId), VB.cells [I at'] (3 : TypeId), VB.cells [VV.ptr (VA.own 5 0)] (78 : TypeId), VB.cells [VV.nils] (29 : TypeId), VB.cells [I k] (3 : TypeId), VB.cells [I 1] (30 : TypeId), VB.cells [I w.flo, I w.fhi, I w.wlo, I w.whi] (89 : TypeId), VB.cells [VV.ptr (VA.own 13 0)] (87 : TypeId), VB.loop false (some VEx.ret) (slG f) 67 [15, 16] as35 bd35, VB.vec xs.length (fun j => wtL (xs.getD j w0)) 4 (25 : TypeId)]
 else X VEx.ret [I i, I k, I ((↑n : Int) + (1 : Int)), VV.yld 15, VV.ptr (VA.own 6 0), VV.ptr (VA.own 7 0), VV.ptr (VA.own 8 0)] [ptsA n l, VB.cells [I f.flo, I f.fhi, I f.wlo, I f.whi] (25 : TypeId), VB.cells [VV.slice (VA.el 0 [] (0 : Int) 0) n cap] (26 : TypeId), VB.cells [I at'] (3 : TypeId), VB.cells [I lim] (3 : TypeId), VB.cells [I (mP heat).k, I (mP heat).flo, I (mP heat).fhi, I (mP heat).wlo, I (mP heat).whi, I (mP heat).hlo, I (mP heat).hhi, I (mP heat).slo, I (mP heat).shi] (47 : TypeId), VB.cells [VV.slice (VA.el 0 [] (0 : Int) 0) n cap] (26 : TypeId), VB.cells [I at'] (3 : TypeId), VB.cells [VV.ptr (VA.own 5 0)] (78 : TypeId), VB.cells [VV.nils] (29 : TypeId), VB.cells [I k] (3 : TypeId), VB.cells [I 1] (30 : TypeId), VB.cells [I w.flo, I w.fhi, I w.wlo, I w.whi] (89 : TypeId), VB.cells [VV.ptr (VA.own 13 0)] (87 : TypeId), VB.loop false (some VEx.ret) (slG f) 67 [15, 16] as35 bd35, VB.vec xs.length (fun j => wtL (xs.getD j w0)) 4 (25 : TypeId)]
 else False
 else bif inK IntKind.i64 (i + (1 : Int)) then
 X VEx.normal [I (i + (1 : Int)), I k, I ((↑n : Int) + (1 : Int)), VV.yld 15, VV.ptr (VA.own 6 0), VV.ptr (VA.own 7 0), VV.ptr (VA.own 8 0)] [ptsA n l, VB.cells [I f.flo, I f.fhi, I f.wlo, I f.whi] (25 : TypeId), VB.cells [VV.slice (VA.el 0 [] (0 : Int) 0) n cap] (26 : TypeId), VB.cells [I at'] (3 : TypeId), VB.cells [I lim] (3 : TypeId), VB.cells [I (mP heat).k, I (mP heat).flo, I (mP heat).fhi, I (mP heat).wlo, I (mP heat).whi, I (mP heat).hlo, I (mP heat).hhi, I (mP heat).slo, I (mP heat).shi] (47 : TypeId), VB.cells [VV.slice (VA.el 0 [] (0 : Int) 0) n cap] (26 : TypeId), VB.cells [I at'] (3 : TypeId), VB.cells [VV.ptr (VA.own 5 0)] (78 : TypeId), VB.cells [VV.sl 16 xs.length] (29 : TypeId), VB.cells [I 0] (3 : TypeId), VB.cells [I 0] (30 : TypeId), VB.cells [I w.flo, I w.fhi, I w.wlo, I w.whi] (89 : TypeId), VB.cells [VV.ptr (VA.own 13 0)] (87 : TypeId), VB.loop true none (slG f) 67 [15, 16] as35 bd35, VB.vec xs.length (fun j => wtL (xs.getD j w0)) 4 (25 : TypeId)]
 else False
 else X (VEx.exit 0) [I i, I k, I ((↑n : Int) + (1 : Int)), VV.yld 15, VV.ptr (VA.own 6 0), VV.ptr (VA.own 7 0), VV.ptr (VA.own 8 0)] [ptsA n l, VB.cells [I f.flo, I f.fhi, I f.wlo, I f.whi] (25 : TypeId), VB.cells [VV.slice (VA.el 0 [] (0 : Int) 0) n cap] (26 : TypeId), VB.cells [I at'] (3 : TypeId), VB.cells [I lim] (3 : TypeId), VB.cells [I (mP heat).k, I (mP heat).flo, I (mP heat).fhi, I (mP heat).wlo, I (mP heat).whi, I (mP heat).hlo, I (mP heat).hhi, I (mP heat).slo, I (mP heat).shi] (47 : TypeId), VB.cells [VV.slice (VA.el 0 [] (0 : Int) 0) n cap] (26 : TypeId), VB.cells [I at'] (3 : TypeId), VB.cells [VV.ptr (VA.own 5 0)] (78 : TypeId), VB.cells [VV.sl 16 xs.length] (29 : TypeId), VB.cells [I 0] (3 : TypeId), VB.cells [I 0] (30 : TypeId), VB.cells [I w.flo, I w.fhi, I w.wlo, I w.whi] (89 : TypeId), VB.cells [VV.ptr (VA.own 13 0)] (87 : TypeId), VB.loop true none (slG f) 67 [15, 16] as35 bd35, VB.vec xs.length (fun j => wtL (xs.getD j w0)) 4 (25 : TypeId)]) := by kernel_rfl


end Go.Sx.Str

/- stream: the loop over points with one more ahead of a point. -/

namespace Go.Sx.Str
open Go Go.Sx Go.Proofs
set_option maxRecDepth 100000

/-- A round that adds heat. -/
def deedA (w : Wt) (p : Pt) (R : Int → Wt → Prop) (N : Wt → Prop) : Prop :=
  bif !spanB p.hlo p.hhi 0 1099511627776 then
  R 1 w
  else bif decide (w.fhi = 0) then
  False
  else bif inK IntKind.i64 (quoZ p.hlo w.fhi) then
  bif inK IntKind.i64 (w.wlo + quoZ p.hlo w.fhi) then
  upOk p.hhi w.flo ∧ bif inK IntKind.i64 (w.whi + quoZ (p.hhi + w.flo - 1) w.flo) then
  tailT R N ⟨w.flo, w.fhi, (w.wlo + quoZ p.hlo w.fhi), (w.whi + quoZ (p.hhi + w.flo - 1) w.flo)⟩
  else False
  else False
  else False

section
variable {w : Wt} {p : Pt} {R : Int → Wt → Prop} {N : Wt → Prop}

theorem deedA_of (hk : p.k = 2) (hw : WOk w) (h1 : ptB p = false → R 1 w) (h2 : ptB p = true → errW (stepW w p) ≠ 0 → R (errW (stepW w p)) (stepW w p)) (h3 : ptB p = true → errW (stepW w p) = 0 → N (stepW w p)) : deedA w p R N := by
  have := deedT_of (R := R) (N := N) hw h1 h2 h3
  unfold deedT at this
  rw [decide_eq_false (show ¬ p.k = 0 by omega), decide_eq_false (show ¬ p.k = 1 by omega), decide_eq_true hk] at this
  exact this
end

/-- Points with one more ahead of a point. -/
def insP (P : List Pt) (a : Nat) (heat : Int) : List Pt := P.take a ++ mP heat :: P.drop a
/-- What is to come at a round. -/
def restP (P : List Pt) (a : Nat) (heat : Int) (i : Int) : List Pt := if i ≤ a then (insP P a heat).drop i.toNat else P.drop i.toNat

theorem drop_pt {P : List Pt} {i : Int} (h0 : 0 ≤ i) (h : i < P.length) : P.drop i.toNat = pF P i :: P.drop (i + 1).toNat := by
  have hi : i.toNat < P.length := by omega
  rw [List.drop_eq_getElem_cons hi, show (i + 1).toNat = i.toNat + 1 by omega]
  simp [pF, List.getD_eq_getElem?_getD, hi]

section
variable {P : List Pt} {a : Nat} {heat : Int} {i : Int}

theorem ins_drop (ha : a ≤ P.length) : (insP P a heat).drop a = mP heat :: P.drop a := by
  have hl : (P.take a).length = a := by rw [List.length_take]; omega
  unfold insP
  rw [List.drop_append, hl, Nat.sub_self, List.drop_eq_nil_of_le (by rw [hl]; exact Nat.le_refl _), List.nil_append, List.drop_zero]

theorem ins_get (ha : a ≤ P.length) {m : Nat} (h : m < a) : (insP P a heat).drop m = P.getD m p0 :: (insP P a heat).drop (m + 1) := by
  have hl : (P.take a).length = a := by rw [List.length_take]; omega
  have e : (insP P a heat).drop m = (P.take a).drop m ++ mP heat :: P.drop a := by
    unfold insP
    rw [List.drop_append_of_le_length (by omega)]
  have e2 : (insP P a heat).drop (m + 1) = (P.take a).drop (m + 1) ++ mP heat :: P.drop a := by
    unfold insP
    rw [List.drop_append_of_le_length (by omega)]
  rw [e, e2, List.drop_eq_getElem_cons (by omega : m < (P.take a).length), List.cons_append, List.getElem_take]
  simp [List.getD_eq_getElem?_getD, show m < P.length by omega]

theorem rest_lt (ha : a ≤ P.length) (h0 : 0 ≤ i) (h : i < a) : restP P a heat i = pF P i :: restP P a heat (i + 1) := by
  unfold restP
  rw [if_pos (by omega), if_pos (by omega), show (i + 1).toNat = i.toNat + 1 by omega]
  exact ins_get ha (by omega)

theorem rest_at (ha : a ≤ P.length) : restP P a heat a = mP heat :: P.drop a := by
  unfold restP
  rw [if_pos (Int.le_refl _), Int.toNat_natCast]
  exact ins_drop ha

theorem rest_gt (h : (a : Int) < i) : restP P a heat i = P.drop i.toNat := if_neg (by omega)
theorem rest_0 : restP P a heat 0 = insP P a heat := by unfold restP; rw [if_pos (by omega)]; rfl
end

theorem fit_snocG {ys : List Wt} {L : Nat} {G : Nat → List VV} (h : (vecW ys).fit (.vec L G 4 25)) (v : Wt) : (vecW (ys ++ [v])).fit (.vec (L + 1) (catG L G fun j => List.take 4 (List.drop (j * 4) (wtL v))) 4 25) := by
  obtain ⟨g', hg, hj⟩ := VB.fit_vec h
  cases hg
  refine ⟨by simp, rfl, rfl, fun j hj2 => ?_⟩
  simp only [List.length_append, List.length_singleton] at hj2
  simp only [catG]
  by_cases h : j < ys.length
  · rw [blt_t h]
    simp only [cond_true, hj j h]
    simp [List.getD_eq_getElem?_getD, List.getElem?_append_left h]
  · rw [blt_f (by omega)]
    have : j = ys.length := by omega
    subst this
    simp [wtL]

theorem rE_pos {p : Pt} {r : List Pt} {w : Wt} (h : ptB p = true) (he : errW (stepW w p) = 0) : rE w (p :: r) = rE (stepW w p) r := by
  simp only [rE, h, he, Bool.not_true, cond_false, decide_true, cond_true]
theorem rE_bad {p : Pt} {r : List Pt} {w : Wt} (h : ptB p = false) : rE w (p :: r) = 1 := by
  simp only [rE, h, Bool.not_false, cond_true]
theorem rE_err {p : Pt} {r : List Pt} {w : Wt} (h : ptB p = true) (he : errW (stepW w p) ≠ 0) : rE w (p :: r) = errW (stepW w p) := by
  simp only [rE, h, Bool.not_true, cond_false, decide_eq_false he]

structure IG (P : List Pt) (a : Nat) (s : SF) : Prop where
  i : (0 ≤ s.i ∧ s.i ≤ a ∧ s.k = s.i) ∨ ((a : Int) < s.i ∧ s.i ≤ P.length ∧ s.k = s.i + 1) ∨ (s.i = P.length + 1 ∧ s.k = P.length + 1)
  x : (s.xs.length : Int) = s.k
  w : WOk s.w
  n : a ≤ P.length ∧ P.length ≤ 100000

noncomputable def BGr (n cap : Nat) (l : Int → Pt) (f : Wt) (at' lim heat : Int) (w : Wt) (k e : Int) (V : VB) : List VB := BGp n cap l f at' lim heat ++ [.cells [.nils] 29, .cells [I k] 3, .cells [I e] 30, .cells (wtL w) 89, .cells [.ptr (.own 13 0)] 87, recGr f, V]

def OG (P : List Pt) (cap : Nat) (f : Wt) (a : Nat) (lim heat : Int) (s : SF) (e : VEx) (vs : List VV) (bs : List VB) : Prop :=
  (e = .exit 0 ∧ rE s.w (restP P a heat s.i) = 0 ∧ ∃ w', vs = VG P.length (P.length + 1) (P.length + 1) ∧ bs = BG P.length cap (pF P) f a lim heat w' (s.xs ++ rL s.w (restP P a heat s.i))) ∨
  (e = .ret ∧ rE s.w (restP P a heat s.i) ≠ 0 ∧ ∃ i k w' x V, vs = VG P.length i k ∧ bs = BGr P.length cap (pF P) f a lim heat w' x (rE s.w (restP P a heat s.i)) V)

section
variable {P : List Pt} {cap a : Nat} {f : Wt} {lim heat : Int}

abbrev RG (P : List Pt) (cap : Nat) (f : Wt) (a : Nat) (lim heat : Int) (s : SF) := RoundQ (fun s : SF => VG P.length s.i s.k) (fun s => BG P.length cap (pF P) f a lim heat s.w s.xs) (IG P a) (fun s => (P.length + 1 - s.i).toNat) (OG P cap f a lim heat) s

/-- A round's second part: the point itself. -/
theorem w1_second {i k k1 : Int} {w w1 : Wt} {xs ys : List Wt} {L : Nat} {G : Nat → List VV} {B : List Pt} (hL : L = ys.length) (h0 : 0 ≤ i) (hi : i < P.length + 1) (hpl : P.length ≤ 100000) (ha : a ≤ P.length) (hx : (ys.length : Int) = k1) (hw : WOk w1)
    (hr : rE w (restP P a heat i) = rE w1 B) (hl : xs ++ rL w (restP P a heat i) = ys ++ rL w1 B) (hB : i < P.length → B = pF P i :: restP P a heat (i + 1)) (hB2 : i = P.length → B = restP P a heat (i + 1))
    (hk : (i < a ∧ k1 = i) ∨ ((a : Int) ≤ i ∧ k1 = i + 1)) (hfit : (vecW ys).fit (.vec L G 4 25)) :
    bif decide (i < (P.length : Int)) then
    bif decide ((0 : Int) ≤ i ∧ i < (P.length : Int)) then
    (([] : List Int) = [] ∧ (0 : Int) ≤ (0 : Int) + i ∧ (0 : Int) + i < (P.length : Int)) ∧
    deedT w1 (pF P (0 + i)) (fun e w' => RG P cap f a lim heat ⟨i, k, w, xs⟩ .ret (VG P.length i k1) (BGr P.length cap (pF P) f a lim heat w' k1 e (.vec L G 4 25)))
      (fun w' => bif L.beq L then
            bif roomB (L + 1) (32) then
            bif inK IntKind.i64 (k1 + (1 : Int)) then
            bif inK IntKind.i64 (i + (1 : Int)) then
            RG P cap f a lim heat ⟨i, k, w, xs⟩ .normal (VG P.length (i + 1) (k1 + 1)) (BGp P.length cap (pF P) f a lim heat ++ [.cells [.sl 16 (L + 1)] 29, .cells [I 0] 3, .cells [I 0] 30, .cells (wtL w') 89, .cells [.ptr (.own 13 0)] 87, recG f, .vec (L + 1) (catG L G fun j => List.take 4 (List.drop (j * 4) (wtL w'))) 4 25])
            else False else False else False else False)
    else False
    else bif inK IntKind.i64 (i + (1 : Int)) then
      RG P cap f a lim heat ⟨i, k, w, xs⟩ .normal (VG P.length (i + 1) k1) (BGp P.length cap (pF P) f a lim heat ++ [.cells [.sl 16 L] 29, .cells [I 0] 3, .cells [I 0] 30, .cells (wtL w1) 89, .cells [.ptr (.own 13 0)] 87, recG f, .vec L G 4 25])
    else False := by
  by_cases hn : i < (P.length : Int)
  · refine cond_dk hn (cond_dk ⟨h0, hn⟩ ⟨⟨rfl, by omega, by omega⟩, ?_⟩)
    rw [Int.zero_add]
    have hB := hB hn
    subst hB
    refine deedT_of hw (fun hb => ?_) (fun hb he => ?_) (fun hb he => ?_)
    · have e1 : rE w (restP P a heat i) = 1 := hr.trans (rE_bad hb)
      refine .inr ⟨rfl, ?_, i, k1, w1, k1, .vec L G 4 25, rfl, ?_⟩
      · show rE w (restP P a heat i) ≠ 0
        rw [e1]; decide
      · show _ = BGr P.length cap (pF P) f a lim heat w1 k1 (rE w (restP P a heat i)) _
        rw [e1]
    · have e1 : rE w (restP P a heat i) = errW (stepW w1 (pF P i)) := hr.trans (rE_err hb he)
      refine .inr ⟨rfl, ?_, i, k1, stepW w1 (pF P i), k1, .vec L G 4 25, rfl, ?_⟩
      · show rE w (restP P a heat i) ≠ 0
        rw [e1]; exact he
      · show _ = BGr P.length cap (pF P) f a lim heat (stepW w1 (pF P i)) k1 (rE w (restP P a heat i)) _
        rw [e1]
    · have e1 : rE w (restP P a heat i) = rE (stepW w1 (pF P i)) (restP P a heat (i + 1)) := hr.trans (rE_pos hb he)
      refine cond_k (Nat.beq_refl _) (cond_k (room32 (by omega)) (cond_r (by omega) (cond_r (by omega) ?_)))
      refine ⟨⟨i + 1, k1 + 1, stepW w1 (pF P i), ys ++ [stepW w1 (pF P i)]⟩, ⟨by dsimp only; omega, by simp; omega, step_ok hw (ptB_iff.1 hb) he, ha, hpl⟩, by dsimp only; omega, rfl, ?_, ?_⟩
      · subst hL
        refine ⟨VB.fit_refl _, VB.fit_refl _, VB.fit_refl _, VB.fit_refl _, VB.fit_refl _, VB.fit_refl _, VB.fit_refl _, VB.fit_refl _, VB.fit_refl _, ?_, VB.fit_refl _, VB.fit_refl _, VB.fit_refl _, VB.fit_refl _, VB.fit_refl _, fit_snocG hfit _, trivial⟩
        dsimp only
        rw [List.length_append]
        exact VB.fit_refl _
      · intro e vs bs
        simp only [OG]
        rw [e1, hl, rL, List.append_assoc]
        exact id
  · refine cond_d (fun h => absurd h hn) (fun _ => cond_r (by omega) ?_)
    have hB := hB2 (by omega)
    subst hB
    refine ⟨⟨i + 1, k1, w1, ys⟩, ⟨by dsimp only; omega, hx, hw, ha, hpl⟩, by dsimp only; omega, rfl, ?_, ?_⟩
    · subst hL
      exact ⟨VB.fit_refl _, VB.fit_refl _, VB.fit_refl _, VB.fit_refl _, VB.fit_refl _, VB.fit_refl _, VB.fit_refl _, VB.fit_refl _, VB.fit_refl _, VB.fit_refl _, VB.fit_refl _, VB.fit_refl _, VB.fit_refl _, VB.fit_refl _, VB.fit_refl _, hfit, trivial⟩
    · intro e vs bs
      simp only [OG]
      rw [hr, hl]
      exact id

theorem w1_round (i k : Int) (w : Wt) (xs : List Wt) (hi : IG P a ⟨i, k, w, xs⟩) : codeE Try.prog (callN Try.prog (tabS tSt) noL 10 20) (fun _ => none) true 10 44 0 (loopB 0 (bodyOf Try.prog 51)) (dsF.zip (VG P.length i k)) ⟨17, nsG.zip (BG P.length cap (pF P) f a lim heat w xs)⟩ (obs 17 dsF nsG (RG P cap f a lim heat ⟨i, k, w, xs⟩)) := by
  obtain ⟨h1, h2, h3, h4, h5⟩ := hi
  dsimp only at h1 h2 h3
  rw [w1_ev]
  by_cases hlt : i < (P.length : Int) + 1
  · refine cond_dk hlt ?_
    by_cases hia : i = (a : Int)
    · refine cond_dk hia ?_
      have hr0 : restP P a heat i = mP heat :: P.drop i.toNat := by rw [hia, Int.toNat_natCast]; exact rest_at h4
      have hk : k = i := by omega
      subst hk
      have key := deedA_of (w := w) (p := mP heat) rfl h3
        (R := fun e w' => RG P cap f a lim heat ⟨k, k, w, xs⟩ .ret (VG P.length k k) (BGr P.length cap (pF P) f a lim heat w' k e (vecW xs)))
        (N := fun w1 => bif xs.length.beq xs.length then bif roomB (xs.length + 1) (32) then bif inK IntKind.i64 (k + (1 : Int)) then
            bif decide (k < (P.length : Int)) then
            bif decide ((0 : Int) ≤ k ∧ k < (P.length : Int)) then
            (([] : List Int) = [] ∧ (0 : Int) ≤ (0 : Int) + k ∧ (0 : Int) + k < (P.length : Int)) ∧
            deedT w1 (pF P (0 + k)) (fun e w' => RG P cap f a lim heat ⟨k, k, w, xs⟩ .ret (VG P.length k (k + 1)) (BGr P.length cap (pF P) f a lim heat w' (k + 1) e (.vec (xs.length + 1) (catG xs.length (fun j => wtL (xs.getD j w0)) fun j => List.take 4 (List.drop (j * 4) (wtL w1))) 4 25)))
              (fun w' => bif (xs.length + 1).beq (xs.length + 1) then
                    bif roomB (xs.length + 1 + 1) (32) then
                    bif inK IntKind.i64 (k + 1 + (1 : Int)) then
                    bif inK IntKind.i64 (k + (1 : Int)) then
                    RG P cap f a lim heat ⟨k, k, w, xs⟩ .normal (VG P.length (k + 1) (k + 1 + 1)) (BGp P.length cap (pF P) f a lim heat ++ [.cells [.sl 16 (xs.length + 1 + 1)] 29, .cells [I 0] 3, .cells [I 0] 30, .cells (wtL w') 89, .cells [.ptr (.own 13 0)] 87, recG f, .vec (xs.length + 1 + 1) (catG (xs.length + 1) (catG xs.length (fun j => wtL (xs.getD j w0)) fun j => List.take 4 (List.drop (j * 4) (wtL w1))) fun j => List.take 4 (List.drop (j * 4) (wtL w'))) 4 25])
                    else False else False else False else False)
            else False
            else bif inK IntKind.i64 (k + (1 : Int)) then
              RG P cap f a lim heat ⟨k, k, w, xs⟩ .normal (VG P.length (k + 1) (k + 1)) (BGp P.length cap (pF P) f a lim heat ++ [.cells [.sl 16 (xs.length + 1)] 29, .cells [I 0] 3, .cells [I 0] 30, .cells (wtL w1) 89, .cells [.ptr (.own 13 0)] 87, recG f, .vec (xs.length + 1) (catG xs.length (fun j => wtL (xs.getD j w0)) fun j => List.take 4 (List.drop (j * 4) (wtL w1))) 4 25])
            else False
            else False else False else False)
        (fun hb => .inr ⟨rfl, by
            show rE w (restP P a heat k) ≠ 0
            rw [hr0, rE_bad hb]; decide, k, k, w, k, vecW xs, rfl, by
            show _ = BGr P.length cap (pF P) f a lim heat w k (rE w (restP P a heat k)) (vecW xs)
            rw [hr0, rE_bad hb]⟩)
        (fun hb he => .inr ⟨rfl, by
            show rE w (restP P a heat k) ≠ 0
            rw [hr0, rE_err hb he]; exact he, k, k, stepW w (mP heat), k, vecW xs, rfl, by
            show _ = BGr P.length cap (pF P) f a lim heat (stepW w (mP heat)) k (rE w (restP P a heat k)) (vecW xs)
            rw [hr0, rE_err hb he]⟩)
        (fun hb he => by
          refine cond_k (Nat.beq_refl _) (cond_k (room32 (by omega)) (cond_r (by omega) ?_))
          refine w1_second (k := k) (k1 := k + 1) (w := w) (w1 := stepW w (mP heat)) (xs := xs) (ys := xs ++ [stepW w (mP heat)]) (B := P.drop k.toNat) (by simp) (by omega) hlt h5 h4 (by simp; omega) (step_ok h3 (ptB_iff.1 hb) he) ?_ ?_ ?_ ?_ (.inr ⟨by omega, rfl⟩) (fit_snocW xs _)
          · rw [hr0, rE_pos hb he]
          · rw [hr0, rL, List.append_assoc]; rfl
          · intro hn
            rw [rest_gt (by omega)]
            exact drop_pt (by omega) hn
          · intro hn
            rw [rest_gt (by omega), List.drop_eq_nil_of_le (by omega), List.drop_eq_nil_of_le (by omega)])
      exact key
    · refine cond_d (fun h => absurd h hia) (fun _ => ?_)
      refine w1_second (k := k) (k1 := k) (w := w) (w1 := w) (xs := xs) (ys := xs) (B := restP P a heat i) rfl (by omega) hlt h5 h4 h2 h3 rfl rfl ?_ ?_ (by omega) (VB.fit_refl _)
      · intro hn
        by_cases hc : i < (a : Int)
        · exact rest_lt h4 (by omega) hc
        · rw [rest_gt (by omega), rest_gt (by omega)]
          exact drop_pt (by omega) hn
      · intro hn
        rw [rest_gt (by omega), rest_gt (by omega), List.drop_eq_nil_of_le (by omega), List.drop_eq_nil_of_le (by omega)]
  · refine cond_d (fun h => absurd h hlt) (fun _ => ?_)
    have hi' : i = (P.length : Int) + 1 := by omega
    have hk' : k = (P.length : Int) + 1 := by omega
    subst hi' hk'
    have hz : restP P a heat ((P.length : Int) + 1) = [] := by rw [rest_gt (by omega), List.drop_eq_nil_of_le (by omega)]
    refine .inl ⟨rfl, ?_, w, rfl, ?_⟩
    · show rE w (restP P a heat ((P.length : Int) + 1)) = 0
      rw [hz]; rfl
    · show BG P.length cap (pF P) f a lim heat w xs = BG P.length cap (pF P) f a lim heat w (xs ++ rL w (restP P a heat ((P.length : Int) + 1)))
      rw [hz]; simp [rL]
end
end Go.Sx.Str

/- stream: does a heat fit, evaluated. -/

namespace Go.Sx.Str
open Go Go.Sx Go.Proofs
set_option maxRecDepth 100000

def at2 (f g : FuncId) (lf lg : List (Nat × LT)) : FuncId → Nat → Option LT := fun x id => bif Nat.beq x f then tabB lf id else bif Nat.beq x g then tabB lg id else none
def nsGn : List Nat := [0, 1, 2, 3, 4, 5, 6, 7, 8, 10, 11, 12, 13, 14, 15]
noncomputable def BGn (n cap : Nat) (l : Int → Pt) (f : Wt) (at' lim heat : Int) : List VB := BGp n cap l f at' lim heat ++ [.cells [.nils] 29, .cells [I 0] 3, .cells [I 0] 30, .cells (wtL f) 89, .cells [.ptr (.own 13 0)] 87, recG f]
/-- The loop, from nil. -/
def LGn (P : List Pt) (cap : Nat) (f : Wt) (a : Nat) (lim heat : Int) : LT := fun lock t h K =>
  FitP lock h t ⟨16, nsGn.zip (BGn P.length cap (pF P) f a lim heat)⟩ (dsF.zip (VG P.length 0 0)) ∧ (WOk f ∧ a ≤ P.length ∧ P.length ≤ 100000) ∧
    (rE f (insP P a heat) = 0 → ∀ w', K .normal (dsF.zip (VG P.length (P.length + 1) (P.length + 1))) ⟨17, nsG.zip (BG P.length cap (pF P) f a lim heat w' (rL f (insP P a heat)))⟩) ∧
    (rE f (insP P a heat) ≠ 0 → ∀ i k w' x V, K .ret (dsF.zip (VG P.length i k)) ⟨17, nsG.zip (BGr P.length cap (pF P) f a lim heat w' x (rE f (insP P a heat)) V)⟩)
def nsX : List Nat := [0, 1, 2, 3, 4, 16]
def dsX : List Nat := [4, 0, 1, 7, 8]
def BX (P : List Pt) (cap : Nat) (f : Wt) (a : Nat) (lim : Int) (xs : List Wt) : List VB := [ptsA P.length (pF P), .cells (wtL f) 25, .cells [.slice (.el 0 [] 0 0) P.length cap] 26, .cells [I a] 3, .cells [I lim] 3, vecW xs]
def VX (L a m : Nat) (r i : Int) : List VV := [I r, .sub 16 L 4 a m, .func 42 [] [.ptr (.own 4 0)], I m, I i]
def anyH (lim : Int) (xs : List Wt) : Bool := xs.any (hiF lim)
def LX (P : List Pt) (cap : Nat) (f : Wt) (a : Nat) (lim : Int) (xs : List Wt) : LT := fun lock t h K =>
  FitP lock h t ⟨17, nsX.zip (BX P cap f a lim xs)⟩ (dsX.zip (VX xs.length a (xs.length - a) 0 0)) ∧ (a ≤ xs.length ∧ xs.length ≤ 200000) ∧
    (anyH lim (xs.drop a) = false → K .normal (dsX.zip (VX xs.length a (xs.length - a) 0 (xs.length - a : Nat))) ⟨17, nsX.zip (BX P cap f a lim xs)⟩) ∧
    (anyH lim (xs.drop a) = true → ∀ r i : Int, 0 ≤ r → K .ret (dsX.zip (VX xs.length a (xs.length - a) r i)) ⟨17, nsX.zip (BX P cap f a lim xs)⟩)
def bF (P : List Pt) (cap : Nat) (f : Wt) (a : Nat) (lim : Int) : VH := ⟨5, [(0, ptsA P.length (pF P)), (1, .cells (wtL f) 25), (2, .cells [.slice (.el 0 [] 0 0) P.length cap] 26), (3, .cells [I a] 3), (4, .cells [I lim] 3)]⟩
def ftR (Q : VRes → List VB → Prop) : VRes → VH → Prop := fun r h => Q r [h.at 0, h.at 1, h.at 2, h.at 3, h.at 4]
theorem x0_ev (P : List Pt) (cap : Nat) (f : Wt) (a m : Nat) (lim : Int) (xs : List Wt) (r i : Int) (X : VEx → List VV → List VB → Prop) : codeE Try.prog (callN Try.prog noSpec noL 10 20) (fun _ => none) true 10 19 0 (loopB 0 (bodyOf Try.prog 53)) (dsX.zip (VX xs.length a m r i)) ⟨17, nsX.zip (BX P cap f a lim xs)⟩ (obs 17 dsX nsX X) =
  (bif decide (i < (↑m : Int)) then
 bif decide ((0 : Int) ≤ i ∧ i < (↑m : Int)) then
 bif xs.length.beq xs.length && true then
 bif xs.length.beq xs.length then
 bif decide ((xs.getD (a + i.toNat) w0).whi > lim) then
 X VEx.ret [I i, VV.sub 16 xs.length 4 a m, VV.func (42 : FuncId) [] [VV.ptr (VA.own 4 0)], I (↑m : Int), I i] [VB.arr 9 (fun ix i => ix = [] ∧ (0 : Int) ≤ i ∧ i < (↑P.length : Int)) fun x i => ptL (pF P i), VB.cells [I f.flo, I f.fhi, I f.wlo, I f.whi] (25 : TypeId), VB.cells [VV.slice (VA.el 0 [] (0 : Int) 0) P.length cap] (26 : TypeId), VB.cells [I (↑a : Int)] (3 : TypeId), VB.cells [I lim] (3 : TypeId), vecW xs]
 else bif inK IntKind.i64 (i + (1 : Int)) then
 X VEx.normal [I r, VV.sub 16 xs.length 4 a m, VV.func (42 : FuncId) [] [VV.ptr (VA.own 4 0)], I (↑m : Int), I (i + (1 : Int))] [VB.arr 9 (fun ix i => ix = [] ∧ (0 : Int) ≤ i ∧ i < (↑P.length : Int)) fun x i => ptL (pF P i), VB.cells [I f.flo, I f.fhi, I f.wlo, I f.whi] (25 : TypeId), VB.cells [VV.slice (VA.el 0 [] (0 : Int) 0) P.length cap] (26 : TypeId), VB.cells [I (↑a : Int)] (3 : TypeId), VB.cells [I lim] (3 : TypeId), vecW xs]
 else False
 else False
 else False
 else False
 else X (VEx.exit 0) [I r, VV.sub 16 xs.length 4 a m, VV.func (42 : FuncId) [] [VV.ptr (VA.own 4 0)], I (↑m : Int), I i] [VB.arr 9 (fun ix i => ix = [] ∧ (0 : Int) ≤ i ∧ i < (↑P.length : Int)) fun x i => ptL (pF P i), VB.cells [I f.flo, I f.fhi, I f.wlo, I f.whi] (25 : TypeId), VB.cells [VV.slice (VA.el 0 [] (0 : Int) 0) P.length cap] (26 : TypeId), VB.cells [I (↑a : Int)] (3 : TypeId), VB.cells [I lim] (3 : TypeId), vecW xs]) := by kernel_rfl

theorem f40_ev (P : List Pt) (cap : Nat) (f : Wt) (a : Nat) (lim heat : Int) (Q : VRes → List VB → Prop) : callN Try.prog noSpec (at2 51 53 [(0, LGn P cap f a lim heat)] [(0, LX P cap f a lim (rL f (insP P a heat)))]) 10 20 0 (.fn 40) [I heat, .ptr (.own 1 0), .ptr (.own 2 0), .ptr (.own 3 0), .ptr (.own 4 0)] (bF P cap f a lim) (ftR Q) =
  (bif inK IntKind.i64 ((↑P.length : Int) + (1 : Int)) then
 FitP 0 (VH.mk 16 (nsGn.zip (BGn P.length cap (pF P) f (↑a : Int) lim heat))) (dsF.zip (VG P.length (0 : Int) (0 : Int))) (VH.mk 16 (nsGn.zip (BGn P.length cap (pF P) f (↑a : Int) lim heat))) (dsF.zip (VG P.length (0 : Int) (0 : Int))) ∧ (WOk f ∧ a ≤ P.length ∧ P.length ≤ 100000) ∧ (rE f (insP P a heat) = (0 : Int) → ∀ (w' : Wt), bif decide ((0 : Int) ≤ (↑a : Int) ∧ (↑a : Int) ≤ (↑(rL f (insP P a heat)).length : Int) ∧ (↑(rL f (insP P a heat)).length : Int) ≤ (↑(rL f (insP P a heat)).length : Int)) then
 bif (rL f (insP P a heat)).length.beq (rL f (insP P a heat)).length then
 FitP 0 (VH.mk 17 ((12, VB.cells [I 0] (30 : TypeId)) :: (11, VB.cells [I (↑(rL f (insP P a heat)).length : Int)] (3 : TypeId)) :: (10, VB.cells [VV.sl 16 (rL f (insP P a heat)).length] (29 : TypeId)) :: (15, VB.gone) :: nsG.zip (BG P.length cap (pF P) f (↑a : Int) lim heat w' (rL f (insP P a heat))))) [(8, I 0), (7, I (↑((↑(rL f (insP P a heat)).length : Int) - (↑a : Int)).toNat : Int)), (6, VV.sub 16 (rL f (insP P a heat)).length (4) (↑a : Int).toNat ((↑(rL f (insP P a heat)).length : Int) - (↑a : Int)).toNat), (4, I 0), (0, VV.sub 16 (rL f (insP P a heat)).length (4) (↑a : Int).toNat ((↑(rL f (insP P a heat)).length : Int) - (↑a : Int)).toNat), (1, VV.func 42 [] [VV.ptr (VA.own 4 0)])] (VH.mk 17 (nsX.zip (BX P cap f a lim (rL f (insP P a heat))))) (dsX.zip (VX (rL f (insP P a heat)).length a ((rL f (insP P a heat)).length - a) (0 : Int) (0 : Int))) ∧ (a ≤ (rL f (insP P a heat)).length ∧ (rL f (insP P a heat)).length ≤ 200000) ∧ (anyH lim (List.drop a (rL f (insP P a heat))) = false → Q (VRes.ret (VV.bool !decide ((-1 : Int) ≥ (0 : Int)))) [VB.arr 9 (fun ix i => ix = [] ∧ (0 : Int) ≤ i ∧ i < (↑P.length : Int)) fun x i => ptL (pF P i), VB.cells [I f.flo, I f.fhi, I f.wlo, I f.whi] (25 : TypeId), VB.cells [VV.slice (VA.el 0 [] (0 : Int) 0) P.length cap] (26 : TypeId), VB.cells [I (↑a : Int)] (3 : TypeId), VB.cells [I lim] (3 : TypeId)]) ∧ (anyH lim (List.drop a (rL f (insP P a heat))) = true → ∀ (r i : Int), (0 : Int) ≤ r → Q (VRes.ret (VV.bool !decide (r ≥ (0 : Int)))) [VB.arr 9 (fun ix i => ix = [] ∧ (0 : Int) ≤ i ∧ i < (↑P.length : Int)) fun x i => ptL (pF P i), VB.cells [I f.flo, I f.fhi, I f.wlo, I f.whi] (25 : TypeId), VB.cells [VV.slice (VA.el 0 [] (0 : Int) 0) P.length cap] (26 : TypeId), VB.cells [I (↑a : Int)] (3 : TypeId), VB.cells [I lim] (3 : TypeId)])
 else False
 else False) ∧ (rE f (insP P a heat) ≠ (0 : Int) → ∀ (i k : Int) (w' : Wt) (x : Int) (V : VB), bif decide (rE f (insP P a heat) = (0 : Int)) then
 bif decide ((↑a : Int) = (0 : Int) ∧ (0 : Int) = (0 : Int)) then
 FitP 0 (VH.mk 17 ((15, VB.gone) :: nsG.zip (BGr P.length cap (pF P) f (↑a : Int) lim heat w' x (rE f (insP P a heat)) V))) [(8, I 0), (7, I 0), (6, VV.nils), (4, I 0), (0, VV.nils), (1, VV.func 42 [] [VV.ptr (VA.own 4 0)])] (VH.mk 17 (nsX.zip (BX P cap f a lim (rL f (insP P a heat))))) (dsX.zip (VX (rL f (insP P a heat)).length a ((rL f (insP P a heat)).length - a) (0 : Int) (0 : Int))) ∧ (a ≤ (rL f (insP P a heat)).length ∧ (rL f (insP P a heat)).length ≤ 200000) ∧ (anyH lim (List.drop a (rL f (insP P a heat))) = false → Q (VRes.ret (VV.bool !decide ((-1 : Int) ≥ (0 : Int)))) [VB.arr 9 (fun ix i => ix = [] ∧ (0 : Int) ≤ i ∧ i < (↑P.length : Int)) fun x i => ptL (pF P i), VB.cells [I f.flo, I f.fhi, I f.wlo, I f.whi] (25 : TypeId), VB.cells [VV.slice (VA.el 0 [] (0 : Int) 0) P.length cap] (26 : TypeId), VB.cells [I (↑a : Int)] (3 : TypeId), VB.cells [I lim] (3 : TypeId)]) ∧ (anyH lim (List.drop a (rL f (insP P a heat))) = true → ∀ (r i : Int), (0 : Int) ≤ r → Q (VRes.ret (VV.bool !decide (r ≥ (0 : Int)))) [VB.arr 9 (fun ix i => ix = [] ∧ (0 : Int) ≤ i ∧ i < (↑P.length : Int)) fun x i => ptL (pF P i), VB.cells [I f.flo, I f.fhi, I f.wlo, I f.whi] (25 : TypeId), VB.cells [VV.slice (VA.el 0 [] (0 : Int) 0) P.length cap] (26 : TypeId), VB.cells [I (↑a : Int)] (3 : TypeId), VB.cells [I lim] (3 : TypeId)])
 else False
 else Q (VRes.ret (VV.bool false)) [VB.arr 9 (fun ix i => ix = [] ∧ (0 : Int) ≤ i ∧ i < (↑P.length : Int)) fun x i => ptL (pF P i), VB.cells [I f.flo, I f.fhi, I f.wlo, I f.whi] (25 : TypeId), VB.cells [VV.slice (VA.el 0 [] (0 : Int) 0) P.length cap] (26 : TypeId), VB.cells [I (↑a : Int)] (3 : TypeId), VB.cells [I lim] (3 : TypeId)])
 else False) := by kernel_rfl


end Go.Sx.Str

/- stream: does a heat fit, as a row. -/

namespace Go.Sx.Str
open Go Go.Sx Go.Proofs
set_option maxRecDepth 100000

section
variable {P : List Pt} {cap a : Nat} {f : Wt} {lim heat : Int}

def LGs (P : List Pt) (cap : Nat) (f : Wt) (a : Nat) (lim heat : Int) : LT := fun lock t h K =>
  FitP lock h t ⟨17, nsG.zip (BG P.length cap (pF P) f a lim heat f [])⟩ (dsF.zip (VG P.length 0 0)) ∧ (WOk f ∧ a ≤ P.length ∧ P.length ≤ 100000) ∧
    (rE f (insP P a heat) = 0 → ∀ w', K .normal (dsF.zip (VG P.length (P.length + 1) (P.length + 1))) ⟨17, nsG.zip (BG P.length cap (pF P) f a lim heat w' (rL f (insP P a heat)))⟩) ∧
    (rE f (insP P a heat) ≠ 0 → ∀ i k w' x V, K .ret (dsF.zip (VG P.length i k)) ⟨17, nsG.zip (BGr P.length cap (pF P) f a lim heat w' x (rE f (insP P a heat)) V)⟩)

theorem LGs_ok : LSound Try.prog true (.block 0 (.loop (loopB 0 (bodyOf Try.prog 51)))) 44 (LGs P cap f a lim heat) := by
  refine loop_row hmix (tab_good hmix tSt_ok 20) (un := 10) (ds := dsF) (ns := nsG) (nx := 17) (fun s : SF => VG P.length s.i s.k) (fun s => BG P.length cap (pF P) f a lim heat s.w s.xs) (IG P a) (fun s => (P.length + 1 - s.i).toNat) (OG P cap f a lim heat) noL_ok (fun s hi => w1_round s.i s.k s.w s.xs hi) ?_
  rintro lock t h K ⟨hf, ⟨hw, ha, hn⟩, h1, h2⟩
  refine ⟨⟨0, 0, f, []⟩, hf, ⟨.inl ⟨Int.le_refl 0, Int.natCast_nonneg _, rfl⟩, rfl, hw, ha, hn⟩, ?_⟩
  rintro e vs bs (⟨rfl, he, w', rfl, rfl⟩ | ⟨rfl, he, i, k, w', x, V, rfl, rfl⟩)
  · dsimp only at he
    rw [rest_0] at he
    have := h1 he w'
    dsimp only
    rw [rest_0]
    exact this
  · dsimp only at he
    rw [rest_0] at he
    have := h2 he i k w' x V
    dsimp only
    rw [rest_0]
    exact this

theorem LGn_ok : LSound Try.prog true (.block 0 (.loop (loopB 0 (bodyOf Try.prog 51)))) 44 (LGn P cap f a lim heat) :=
  ghost_cells_row (m := 10) (nx := 16) (cs := [.nils]) (cs' := [.sl 16 0]) (ty := 29) (bs := nsGn.zip (BGn P.length cap (pF P) f a lim heat)) (t0 := dsF.zip (VG P.length 0 0))
    (fun j => wtL (([] : List Wt).getD j w0)) 4 25 LGs_ok rfl (fun R xs hv hx => by
      obtain ⟨a0, _, k0, k1, rfl⟩ := hx
      exact ⟨_, _, nil_ghost hv k0, k1, rfl⟩) (by
      rintro lock t h K ⟨hf, hc, h1, h2⟩
      exact ⟨hf, ⟨⟨rfl, rfl, VB.fit_refl _, VB.fit_refl _, VB.fit_refl _, VB.fit_refl _, VB.fit_refl _, VB.fit_refl _, VB.fit_refl _, VB.fit_refl _, VB.fit_refl _, VB.fit_refl _, VB.fit_refl _, VB.fit_refl _, VB.fit_refl _, VB.fit_refl _, VB.fit_refl _, VB.fit_refl _, trivial⟩, rfl, rfl, rfl, rfl, rfl, rfl, rfl, trivial⟩, hc, h1, h2⟩)

theorem any_yes {xs : List Wt} {j : Nat} (h : j < xs.length) (hp : hiF lim (xs.getD j w0) = true) : anyH lim (xs.drop j) = true := by
  unfold anyH
  rw [List.drop_eq_getElem_cons h, List.any_cons]
  have : xs.getD j w0 = xs[j] := by simp [List.getD_eq_getElem?_getD, h]
  rw [← this, hp]; rfl
theorem any_no {xs : List Wt} {j : Nat} (h : j < xs.length) (hp : hiF lim (xs.getD j w0) = false) : anyH lim (xs.drop j) = anyH lim (xs.drop (j + 1)) := by
  unfold anyH
  rw [List.drop_eq_getElem_cons h, List.any_cons]
  have : xs.getD j w0 = xs[j] := by simp [List.getD_eq_getElem?_getD, h]
  rw [← this, hp]; rfl

def OX (P : List Pt) (cap : Nat) (f : Wt) (a : Nat) (lim : Int) (xs : List Wt) (i : Int) (x : VEx) (vs : List VV) (bs : List VB) : Prop :=
  (x = .exit 0 ∧ anyH lim (xs.drop (a + i.toNat)) = false ∧ vs = VX xs.length a (xs.length - a) 0 (xs.length - a : Nat) ∧ bs = BX P cap f a lim xs) ∨
  (x = .ret ∧ anyH lim (xs.drop (a + i.toNat)) = true ∧ (∃ r j : Int, 0 ≤ r ∧ vs = VX xs.length a (xs.length - a) r j) ∧ bs = BX P cap f a lim xs)

theorem LX_ok {xs : List Wt} : LSound Try.prog true (.block 0 (.loop (loopB 0 (bodyOf Try.prog 53)))) 19 (LX P cap f a lim xs) := by
  by_cases hn : a ≤ xs.length ∧ xs.length ≤ 200000
  · obtain ⟨ha, hn⟩ := hn
    refine loop_row hmix good0 (un := 10) (ds := dsX) (ns := nsX) (nx := 17) (fun i : Int => VX xs.length a (xs.length - a) 0 i) (fun _ => BX P cap f a lim xs) (fun i => 0 ≤ i ∧ i ≤ (xs.length - a : Nat)) (fun i => ((xs.length - a : Nat) - i).toNat) (OX P cap f a lim xs) noL_ok ?_ ?_
    · rintro i ⟨h0, h1⟩
      rw [x0_ev]
      by_cases hlt : i < ((xs.length - a : Nat) : Int)
      · have hx : xs.length.beq xs.length = true := Nat.beq_refl _
        have hx2 : (xs.length.beq xs.length && true) = true := by rw [hx]; rfl
        have hj : a + i.toNat < xs.length := by omega
        refine cond_dk hlt (cond_dk ⟨h0, hlt⟩ (cond_k hx2 (cond_k hx (cond_d (fun hp => ?_) (fun hp => cond_r (by omega) ?_)))))
        · exact .inr ⟨rfl, any_yes hj (decide_eq_true hp), ⟨i, i, h0, rfl⟩, rfl⟩
        · refine ⟨i + 1, ⟨by omega, by omega⟩, by dsimp only; omega, rfl, fitBs_refl _, fun e vs bs ho => ?_⟩
          have e1 := any_no hj (decide_eq_false hp : hiF lim (xs.getD (a + i.toNat) w0) = false)
          unfold OX at ho ⊢
          rw [e1]
          rw [show a + (i + 1).toNat = a + i.toNat + 1 by omega] at ho
          exact ho
      · refine cond_d (fun h => absurd h hlt) (fun _ => ?_)
        have : i = ((xs.length - a : Nat) : Int) := by omega
        subst this
        exact .inl ⟨rfl, by rw [List.drop_eq_nil_of_le (by omega)]; rfl, rfl, rfl⟩
    · rintro lock t h K ⟨hf, _, h1, h2⟩
      refine ⟨0, hf, ⟨Int.le_refl 0, Int.natCast_nonneg _⟩, ?_⟩
      rintro x vs bs (⟨rfl, he, rfl, rfl⟩ | ⟨rfl, he, ⟨r, j, hr, rfl⟩, rfl⟩)
      · exact h1 he
      · exact h2 he r j hr
  · rintro lock t h K ⟨hf, hc, h1, _⟩
    exact (hn hc).elim

theorem callL2_good {f g : FuncId} (hne : Nat.beq g f = false) {lf lg : List (Nat × LT)} (hf' : LoopsOk Try.prog f lf) (hg' : LoopsOk Try.prog g lg) {un : Nat} (m : Nat) : Good Try.prog (callN Try.prog noSpec (at2 f g lf lg) un m) := by
  refine callN_good hmix (fun _ _ h => absurd h (by simp [noSpec])) (fun x fn c hf hc id T hT b hb => ?_) m
  unfold at2 at hT
  cases hx : Nat.beq x f with
  | true =>
    rw [hx] at hT
    have := Nat.eq_of_beq_eq_true hx
    subst this
    exact loops_use hf' hf c hc id T hT b hb
  | false =>
    rw [hx] at hT
    cases hx2 : Nat.beq x g with
    | true =>
      rw [hx2] at hT
      have := Nat.eq_of_beq_eq_true hx2
      subst this
      exact loops_use hg' hf c hc id T hT b hb
    | false => rw [hx2] at hT; cases hT

/-- Does a heat fit? -/
def fitF (f : Wt) (P : List Pt) (a : Nat) (lim heat : Int) : Bool := decide (rE f (insP P a heat) = 0) && !anyH lim ((rL f (insP P a heat)).drop a)

theorem ins_len (ha : a ≤ P.length) : (insP P a heat).length = P.length + 1 := by
  unfold insP
  rw [List.length_append, List.length_take, List.length_cons, List.length_drop]
  omega

theorem fits_v (hw : WOk f) (ha : a ≤ P.length) (hn : P.length ≤ 100000) : ∃ h', CallsV Try.prog 40 [I heat, .ptr (.own 1 0), .ptr (.own 2 0), .ptr (.own 3 0), .ptr (.own 4 0)] (bF P cap f a lim) (.ret (.bool (fitF f P a lim heat))) h' ∧ ∀ n, n < 5 → h'.at n = (bF P cap f a lim).at n := by
  obtain ⟨r, h', hQ, hc⟩ := of_callN (callL2_good (f := 51) (g := 53) (by decide) (lo_one (by kernel_rfl) (LGn_ok (P := P) (cap := cap) (f := f) (a := a) (lim := lim) (heat := heat))) (lo_one (by kernel_rfl) (LX_ok (P := P) (cap := cap) (f := f) (a := a) (lim := lim) (xs := rL f (insP P a heat)))) (un := 10) 20)
    (f := 40) (args := [I heat, .ptr (.own 1 0), .ptr (.own 2 0), .ptr (.own 3 0), .ptr (.own 4 0)]) (h := bF P cap f a lim)
    (K := ftR fun r bs => r = .ret (.bool (fitF f P a lim heat)) ∧ bs = [ptsA P.length (pF P), .cells (wtL f) 25, .cells [.slice (.el 0 [] 0 0) P.length cap] 26, .cells [I a] 3, .cells [I lim] 3])
    (by
      rw [f40_ev]
      have hl : (rL f (insP P a heat)).length = P.length + 1 := by rw [rL_len, ins_len ha]
      refine cond_r (by omega) ⟨fitP_self rfl, ⟨hw, ha, hn⟩, fun h0 w' => ?_, fun h0 i k w' x V => ?_⟩
      · refine cond_dk ⟨by omega, by omega, by omega⟩ (cond_k (Nat.beq_refl _) ?_)
        have e1 : ((rL f (insP P a heat)).length - (a : Int)).toNat = (rL f (insP P a heat)).length - a := by omega
        rw [e1, Int.toNat_natCast]
        refine ⟨⟨⟨rfl, rfl, VB.fit_refl _, VB.fit_refl _, VB.fit_refl _, VB.fit_refl _, VB.fit_refl _, VB.fit_refl _, trivial⟩, rfl, rfl, rfl, rfl, rfl, trivial⟩, ⟨by omega, by omega⟩, fun hx => ?_, fun hx r i hr => ?_⟩
        · unfold fitF
          rw [h0, hx]
          exact ⟨rfl, rfl⟩
        · unfold fitF
          rw [h0, hx, decide_eq_true (show r ≥ 0 from hr)]
          exact ⟨rfl, rfl⟩
      · refine cond_d (fun h => absurd h h0) (fun _ => ?_)
        unfold fitF
        rw [decide_eq_false h0]
        exact ⟨rfl, rfl⟩)
  obtain ⟨rfl, hb⟩ := hQ
  injection hb with g0 hb
  injection hb with g1 hb
  injection hb with g2 hb
  injection hb with g3 hb
  injection hb with g4 hb
  refine ⟨h', hc, fun n hn => ?_⟩
  match n, hn with
  | 0, _ => exact g0
  | 1, _ => exact g1
  | 2, _ => exact g2
  | 3, _ => exact g3
  | 4, _ => exact g4

/-- fits as a row. -/
def ftT (P : List Pt) (cap : Nat) (f : Wt) (at' lim : Int) : FuncId × Spec1 := (40, fun _ args h K => match args with
  | [.int .i64 heat, .ptr (.own 1 0), .ptr (.own 2 0), .ptr (.own 3 0), .ptr (.own 4 0)] =>
    ((h.at 0 = ptsA P.length (pF P) ∧ h.at 1 = .cells (wtL f) 25 ∧ h.at 2 = .cells [.slice (.el 0 [] 0 0) P.length cap] 26 ∧ h.at 3 = .cells [I at'] 3 ∧ h.at 4 = .cells [I lim] 3) ∧ (WOk f ∧ (0 ≤ at' ∧ at' ≤ P.length) ∧ P.length ≤ 100000)) ∧
      K (.ret (.bool (fitF f P at'.toNat lim heat))) h
  | _ => False)

theorem lt_nx {h : VH} {n : Nat} (hn : h.at n ≠ .free) : n < h.nx := by
  by_cases hh : n < h.nx
  · exact hh
  · exact (hn (at_ge hh)).elim

theorem ftT_ok {at' : Int} : SpOk Try.prog (ftT P cap f at' lim).1 (ftT P cap f at' lim).2 := by
  intro lock args h K hK
  simp only [ftT] at hK
  split at hK
  · rename_i heat
    obtain ⟨⟨⟨g0, g1, g2, g3, g4⟩, hw, ⟨a0, a1⟩, hn⟩, hK⟩ := hK
    obtain ⟨h', hc, hs⟩ := fits_v (P := P) (cap := cap) (f := f) (a := at'.toNat) (lim := lim) (heat := heat) hw (by omega) hn
    have hat : (at'.toNat : Int) = at' := Int.toNat_of_nonneg a0
    refine ⟨_, h, hK, lockP_refl _ _, calls_lift hc (lt_nx (n := 4) (by rw [g4]; simp)) (fun n hn => ?_) hs (fun n hn => ?_) (fun n hn => ?_) rfl rfl⟩
    · match n, hn with
      | 0, _ => exact g0
      | 1, _ => exact g1
      | 2, _ => exact g2
      | 3, _ => rw [g3, ← hat]; rfl
      | 4, _ => exact g4
    · match n, hn with
      | 0, _ => exact fun h => VB.noConfusion h
      | 1, _ => exact fun h => VB.noConfusion h
      | 2, _ => exact fun h => VB.noConfusion h
      | 3, _ => exact fun h => VB.noConfusion h
      | 4, _ => exact fun h => VB.noConfusion h
    · match n, hn with
      | 0, _ => rfl
      | 1, _ => rfl
      | 2, _ => rfl
      | 3, _ => rfl
      | 4, _ => rfl
  · exact hK.elim
end
end Go.Sx.Str

/- stream: Room, evaluated. -/

namespace Go.Sx.Str
open Go Go.Sx Go.Proofs
set_option maxRecDepth 100000

/-- The greatest number for which a condition holds, by halves. -/
def bsF (p : Int → Bool) : Nat → Int → Int → Int
  | 0, lo, _ => lo
  | m + 1, lo, hi => if lo < hi then (bif p ((lo + hi + 1) / 2) then bsF p m ((lo + hi + 1) / 2) hi else bsF p m lo ((lo + hi + 1) / 2 - 1)) else lo
abbrev hM : Int := 1099511627776
def bsR (w : Wt) (P : List Pt) (at' lim : Int) : Int := bsF (fitF w P at'.toNat lim) 41 0 1099511627776
def nsB : List Nat := [0, 1, 2, 3, 4]
abbrev fFit : VV := .func 40 [] [.ptr (.own 1 0), .ptr (.own 2 0), .ptr (.own 3 0), .ptr (.own 4 0)]
def BB (P : List Pt) (cap : Nat) (w : Wt) (at' lim : Int) : List VB := [ptsA P.length (pF P), .cells (wtL w) 25, .cells [.slice (.el 0 [] 0 0) P.length cap] 26, .cells [I at'] 3, .cells [I lim] 3]
def dsB : List Nat := [13, 14, 15]
def VB3 (lo hi : Int) : List VV := [fFit, I lo, I hi]
def LB (P : List Pt) (cap : Nat) (w : Wt) (at' lim : Int) : LT := fun lock t h K =>
  FitP lock h t ⟨6, nsB.zip (BB P cap w at' lim)⟩ (dsB.zip (VB3 0 1099511627776)) ∧ (WOk w ∧ (0 ≤ at' ∧ at' ≤ P.length) ∧ P.length ≤ 100000) ∧ K .normal (dsB.zip (VB3 (bsR w P at' lim) (bsR w P at' lim))) ⟨6, nsB.zip (BB P cap w at' lim)⟩
def t19 (P : List Pt) (cap : Nat) (w : Wt) (at' lim : Int) : List (FuncId × Spec1) := [waT 34, inT 38, flT 13, ftT P cap w at' lim]
theorem b0_ev (P : List Pt) (cap : Nat) (w : Wt) (at' lim lo hi : Int) (X : VEx → List VV → List VB → Prop) : codeE Try.prog (callN Try.prog (tabS (t19 P cap w at' lim)) noL 10 20) (fun _ => none) true 10 63 0 (loopB 1 (bodyOf Try.prog 19)) (dsB.zip (VB3 lo hi)) ⟨6, nsB.zip (BB P cap w at' lim)⟩ (obs 6 dsB nsB X) =
  (bif decide (lo < hi) then
 bif inK IntKind.i64 (hi - lo) then
 bif inK IntKind.i64 (hi - lo + (1 : Int)) then
 bif inK IntKind.i64 (quoZ (hi - lo + (1 : Int)) (2 : Int)) then
 bif inK IntKind.i64 (lo + quoZ (hi - lo + (1 : Int)) (2 : Int)) then
 ((ptsA P.length (pF P) = ptsA P.length (pF P) ∧ VB.cells (wtL w) (25 : TypeId) = VB.cells (wtL w) (25 : TypeId) ∧ VB.cells [VV.slice (VA.el 0 [] (0 : Int) 0) P.length cap] (26 : TypeId) = VB.cells [VV.slice (VA.el 0 [] (0 : Int) 0) P.length cap] (26 : TypeId) ∧ VB.cells [I at'] (3 : TypeId) = VB.cells [I at'] (3 : TypeId) ∧ VB.cells [I lim] (3 : TypeId) = VB.cells [I lim] (3 : TypeId)) ∧ WOk w ∧ ((0 : Int) ≤ at' ∧ at' ≤ (↑P.length : Int)) ∧ P.length ≤ 100000) ∧ bif fitF w P at'.toNat lim (lo + quoZ (hi - lo + (1 : Int)) (2 : Int)) then
 X VEx.normal [VV.func (40 : FuncId) [] [VV.ptr (VA.own 1 0), VV.ptr (VA.own 2 0), VV.ptr (VA.own 3 0), VV.ptr (VA.own 4 0)], I (lo + quoZ (hi - lo + (1 : Int)) (2 : Int)), I hi] [ptsA P.length (pF P), VB.cells (wtL w) (25 : TypeId), VB.cells [VV.slice (VA.el 0 [] (0 : Int) 0) P.length cap] (26 : TypeId), VB.cells [I at'] (3 : TypeId), VB.cells [I lim] (3 : TypeId)]
 else bif inK IntKind.i64 (lo + quoZ (hi - lo + (1 : Int)) (2 : Int) - (1 : Int)) then
 X VEx.normal [VV.func (40 : FuncId) [] [VV.ptr (VA.own 1 0), VV.ptr (VA.own 2 0), VV.ptr (VA.own 3 0), VV.ptr (VA.own 4 0)], I lo, I (lo + quoZ (hi - lo + (1 : Int)) (2 : Int) - (1 : Int))] [ptsA P.length (pF P), VB.cells (wtL w) (25 : TypeId), VB.cells [VV.slice (VA.el 0 [] (0 : Int) 0) P.length cap] (26 : TypeId), VB.cells [I at'] (3 : TypeId), VB.cells [I lim] (3 : TypeId)]
 else False
 else False
 else False
 else False
 else False
 else X (VEx.exit 1) [VV.func (40 : FuncId) [] [VV.ptr (VA.own 1 0), VV.ptr (VA.own 2 0), VV.ptr (VA.own 3 0), VV.ptr (VA.own 4 0)], I lo, I hi] [ptsA P.length (pF P), VB.cells (wtL w) (25 : TypeId), VB.cells [VV.slice (VA.el 0 [] (0 : Int) 0) P.length cap] (26 : TypeId), VB.cells [I at'] (3 : TypeId), VB.cells [I lim] (3 : TypeId)]) := by kernel_rfl

theorem f19_ev (P : List Pt) (cap : Nat) (w : Wt) (at' lim : Int) (Q : VRes → Prop) : spBL Try.prog 19 (tabS (t19 P cap w at' lim)) [(1, LB P cap w at' lim)] 10 20 0 [.agg (wtL w), .slice (.el 0 [] 0 0) P.length cap, I at', I lim] ⟨1, [(0, ptsA P.length (pF P))]⟩ (fun r _ => Q r) =
  (bif !watB w then
 Q (VRes.ret (VV.tup [I 0, I 1]))
 else bif !inB lim (0 : Int) (100000 : Int) then
 Q (VRes.ret (VV.tup [I 0, I 2]))
 else bif !inB at' (0 : Int) (↑P.length : Int) then
 Q (VRes.ret (VV.tup [I 0, I 2]))
 else ∃ P_1, isList (VH.mk (5) [(4, VB.cells [I lim] 3), (3, VB.cells [I at'] 3), (2, VB.cells [VV.slice (VA.el 0 [] (0 : Int) 0) P.length cap] 26), (1, VB.cells (wtL w) 25), (0, ptsA P.length (pF P))]) (VV.slice (VA.el 0 [] (0 : Int) 0) P.length cap) P_1.length 9 (pG P_1) ∧ bif !decide (flE w P_1 = (0 : Int)) then
 Q (VRes.ret (VV.tup [I 0, I (flE w P_1)]))
 else ((ptsA P.length (pF P) = ptsA P.length (pF P) ∧ VB.cells (wtL w) (25 : TypeId) = VB.cells (wtL w) (25 : TypeId) ∧ VB.cells [VV.slice (VA.el 0 [] (0 : Int) 0) P.length cap] (26 : TypeId) = VB.cells [VV.slice (VA.el 0 [] (0 : Int) 0) P.length cap] (26 : TypeId) ∧ VB.cells [I at'] (3 : TypeId) = VB.cells [I at'] (3 : TypeId) ∧ VB.cells [I lim] (3 : TypeId) = VB.cells [I lim] (3 : TypeId)) ∧ WOk w ∧ ((0 : Int) ≤ at' ∧ at' ≤ (↑P.length : Int)) ∧ P.length ≤ 100000) ∧ bif !fitF w P at'.toNat lim (0 : Int) then
 Q (VRes.ret (VV.tup [I 0, I 11]))
 else FitP 0 (VH.mk 6 (nsB.zip (BB P cap w at' lim))) (dsB.zip (VB3 (0 : Int) (1099511627776 : Int))) (VH.mk 6 (nsB.zip (BB P cap w at' lim))) (dsB.zip (VB3 (0 : Int) (1099511627776 : Int))) ∧ (WOk w ∧ ((0 : Int) ≤ at' ∧ at' ≤ (↑P.length : Int)) ∧ P.length ≤ 100000) ∧ Q (VRes.ret (VV.tup [I (bsR w P at' lim), I 0]))) := by kernel_rfl


end Go.Sx.Str

/- stream: Room as a row. -/

namespace Go.Sx.Str
open Go Go.Sx Go.Proofs
set_option maxRecDepth 100000

def rmE (w : Wt) (P : List Pt) (at' lim : Int) : Int :=
  bif !watB w then 1 else bif !inB lim 0 100000 then 2 else bif !inB at' 0 P.length then 2 else bif !decide (flE w P = 0) then flE w P else bif !fitF w P at'.toNat lim 0 then 11 else 0
def rmH (w : Wt) (P : List Pt) (at' lim : Int) : Int := bif decide (rmE w P at' lim = 0) then bsR w P at' lim else 0
abbrev rmV (w : Wt) (P : List Pt) (at' lim : Int) : VV := .tup [I (rmH w P at' lim), I (rmE w P at' lim)]

theorem rmH_1 {w : Wt} {P : List Pt} {at' lim : Int} (h : rmE w P at' lim ≠ 0) : rmH w P at' lim = 0 := by
  unfold rmH
  rw [decide_eq_false h]; rfl
theorem rmH_0 {w : Wt} {P : List Pt} {at' lim : Int} (h : rmE w P at' lim = 0) : rmH w P at' lim = bsR w P at' lim := by
  unfold rmH
  rw [decide_eq_true h]; rfl

theorem rm1 {w : Wt} {P : List Pt} {at' lim : Int} (h : watB w = false) : rmE w P at' lim = 1 := by unfold rmE; rw [h]; rfl
theorem rm2 {w : Wt} {P : List Pt} {at' lim : Int} (h : watB w = true) (h2 : inB lim 0 100000 = false) : rmE w P at' lim = 2 := by unfold rmE; rw [h, h2]; rfl
theorem rm3 {w : Wt} {P : List Pt} {at' lim : Int} (h : watB w = true) (h2 : inB lim 0 100000 = true) (h3 : inB at' 0 P.length = false) : rmE w P at' lim = 2 := by unfold rmE; rw [h, h2, h3]; rfl
theorem rm4 {w : Wt} {P : List Pt} {at' lim : Int} (h : watB w = true) (h2 : inB lim 0 100000 = true) (h3 : inB at' 0 P.length = true) (h4 : flE w P ≠ 0) : rmE w P at' lim = flE w P := by
  unfold rmE; rw [h, h2, h3, decide_eq_false h4]; rfl
theorem rm5 {w : Wt} {P : List Pt} {at' lim : Int} (h : watB w = true) (h2 : inB lim 0 100000 = true) (h3 : inB at' 0 P.length = true) (h4 : flE w P = 0) (h5 : fitF w P at'.toNat lim 0 = false) : rmE w P at' lim = 11 := by
  unfold rmE; rw [h, h2, h3, decide_eq_true h4, h5]; rfl
theorem rm6 {w : Wt} {P : List Pt} {at' lim : Int} (h : watB w = true) (h2 : inB lim 0 100000 = true) (h3 : inB at' 0 P.length = true) (h4 : flE w P = 0) (h5 : fitF w P at'.toNat lim 0 = true) : rmE w P at' lim = 0 := by
  unfold rmE; rw [h, h2, h3, decide_eq_true h4, h5]; rfl

theorem bs_end {p : Int → Bool} {m : Nat} {lo hi : Int} (h : ¬ lo < hi) : bsF p m lo hi = lo := by
  cases m with
  | zero => rfl
  | succ m => simp only [bsF, if_neg h]
theorem bs_yes {p : Int → Bool} {m : Nat} {lo hi : Int} (h : lo < hi) (hp : p ((lo + hi + 1) / 2) = true) : bsF p (m + 1) lo hi = bsF p m ((lo + hi + 1) / 2) hi := by
  simp only [bsF, if_pos h, hp, cond_true]
theorem bs_no {p : Int → Bool} {m : Nat} {lo hi : Int} (h : lo < hi) (hp : p ((lo + hi + 1) / 2) = false) : bsF p (m + 1) lo hi = bsF p m lo ((lo + hi + 1) / 2 - 1) := by
  simp only [bsF, if_pos h, hp, cond_false]

/-- A state of the search. -/
structure SB where
  m : Nat
  lo : Int
  hi : Int

structure IB (P : List Pt) (w : Wt) (at' : Int) (s : SB) : Prop where
  w : WOk w
  a : 0 ≤ at' ∧ at' ≤ P.length
  n : P.length ≤ 100000
  b : 0 ≤ s.lo ∧ s.lo ≤ s.hi ∧ s.hi ≤ 1099511627776
  m : s.hi - s.lo < ((2 ^ s.m : Nat) : Int)

theorem pow_pos2 (m : Nat) : ((2 ^ (m + 1) : Nat) : Int) = 2 * ((2 ^ m : Nat) : Int) := by rw [Nat.pow_succ]; omega

def OB (w : Wt) (P : List Pt) (cap : Nat) (at' lim : Int) (s : SB) (e : VEx) (vs : List VV) (bs : List VB) : Prop :=
  e = .exit 1 ∧ vs = VB3 (bsF (fitF w P at'.toNat lim) s.m s.lo s.hi) (bsF (fitF w P at'.toNat lim) s.m s.lo s.hi) ∧ bs = BB P cap w at' lim

section
variable {P : List Pt} {cap : Nat} {w : Wt} {at' lim : Int}

theorem t19_ok : ∀ x ∈ t19 P cap w at' lim, SpOk Try.prog x.1 x.2 := by
  intro x hx
  simp only [t19, List.mem_cons, List.not_mem_nil, or_false] at hx
  rcases hx with rfl | rfl | rfl | rfl
  · exact waT_ok wa34_v
  · exact inT_ok within_v
  · exact fl13_ok
  · exact ftT_ok

theorem b0_round (m : Nat) (lo hi : Int) (h : IB P w at' ⟨m, lo, hi⟩) : codeE Try.prog (callN Try.prog (tabS (t19 P cap w at' lim)) noL 10 20) (fun _ => none) true 10 63 0 (loopB 1 (bodyOf Try.prog 19)) (dsB.zip (VB3 lo hi)) ⟨6, nsB.zip (BB P cap w at' lim)⟩
    (obs 6 dsB nsB (RoundQ (fun s : SB => VB3 s.lo s.hi) (fun _ => BB P cap w at' lim) (IB P w at') (fun s => (s.hi - s.lo).toNat) (OB w P cap at' lim) ⟨m, lo, hi⟩)) := by
  obtain ⟨hw, ha, hn, hb, hm⟩ := h
  dsimp only at hb hm
  rw [b0_ev]
  by_cases hlt : lo < hi
  · have eq : lo + quoZ (hi - lo + 1) 2 = (lo + hi + 1) / 2 := by rw [quoZ_nn (by omega)]; omega
    have e2 : quoZ (hi - lo + 1) 2 = (lo + hi + 1) / 2 - lo := by omega
    rw [eq, e2]
    cases m with
    | zero => simp at hm; omega
    | succ m =>
      rw [pow_pos2] at hm
      refine cond_dk hlt (cond_r (by omega) (cond_r (by omega) (cond_r (by omega) (cond_r (by omega) ⟨⟨⟨rfl, rfl, rfl, rfl, rfl⟩, hw, ha, hn⟩, cond_b (fun hp => ?_) (fun hp => cond_r (by omega) ?_)⟩))))
      · refine ⟨⟨m, (lo + hi + 1) / 2, hi⟩, ⟨hw, ha, hn, by dsimp only; omega, by dsimp only; omega⟩, by dsimp only; omega, rfl, fitBs_refl _, ?_⟩
        rintro e vs bs ho
        unfold OB at ho ⊢
        rw [bs_yes hlt hp]
        exact ho
      · refine ⟨⟨m, lo, (lo + hi + 1) / 2 - 1⟩, ⟨hw, ha, hn, by dsimp only; omega, by dsimp only; omega⟩, by dsimp only; omega, rfl, fitBs_refl _, ?_⟩
        rintro e vs bs ho
        unfold OB at ho ⊢
        rw [bs_no hlt hp]
        exact ho
  · refine cond_d (fun h => absurd h hlt) (fun _ => ?_)
    have : hi = lo := by omega
    subst this
    refine ⟨rfl, ?_, rfl⟩
    rw [bs_end hlt]
    rfl

theorem LB_ok : LSound Try.prog true (.block 1 (.loop (loopB 1 (bodyOf Try.prog 19)))) 63 (LB P cap w at' lim) := by
  refine loop_row hmix (tab_good hmix t19_ok 20) (un := 10) (ds := dsB) (ns := nsB) (nx := 6) (fun s : SB => VB3 s.lo s.hi) (fun _ => BB P cap w at' lim) (IB P w at') (fun s => (s.hi - s.lo).toNat) (OB w P cap at' lim) noL_ok (fun s h => b0_round s.m s.lo s.hi h) ?_
  rintro lock t h K ⟨hf, ⟨hw, ha, hn⟩, hK⟩
  refine ⟨⟨41, 0, 1099511627776⟩, hf, ⟨hw, ha, hn, by dsimp only; omega, by dsimp only; decide⟩, ?_⟩
  rintro e vs bs ⟨rfl, rfl, rfl⟩
  exact hK
end

theorem room19 (w : Wt) (P : List Pt) (at' lim : Int) (cap : Nat) : ∃ h', CallsV Try.prog 19 [.agg (wtL w), .slice (.el 0 [] 0 0) P.length cap, I at', I lim] ⟨1, [(0, ptsA P.length (pF P))]⟩ (.ret (rmV w P at' lim)) h' := by
  have hsp := spBL_ok hmix (tabs_ok (t19_ok (P := P) (cap := cap) (w := w) (at' := at') (lim := lim))) (f := 19) (l := [(1, LB P cap w at' lim)]) (fun x hx => by
    simp only [List.mem_singleton] at hx
    subst hx
    exact ⟨by kernel_rfl, LB_ok⟩) (un := 10) (fu := 20)
  obtain ⟨r, h', hQ, hc⟩ := of_sp hsp (args := [.agg (wtL w), .slice (.el 0 [] 0 0) P.length cap, I at', I lim]) (h := ⟨1, [(0, ptsA P.length (pF P))]⟩)
    (K := fun r _ => r = .ret (rmV w P at' lim))
    (by
      refine cast (f19_ev P cap w at' lim (fun r => r = .ret (rmV w P at' lim))).symm ?_
      have fin : ∀ e : Int, e ≠ 0 → rmE w P at' lim = e → VRes.ret (.tup [I 0, I e]) = .ret (rmV w P at' lim) := fun e h0 h => by
        unfold rmV
        rw [rmH_1 (by rw [h]; exact h0), h]
      refine cond_b (fun h1 => ?_) (fun h1 => cond_b (fun h2 => ?_) (fun h2 => cond_b (fun h3 => ?_) (fun h3 => ⟨P, isList_arr rfl, cond_nd (fun h4 => ?_) (fun h4 => ?_)⟩)))
      · exact fin 1 (by decide) (rm1 (by simpa using h1))
      · exact fin 2 (by decide) (rm2 (by simpa using h1) (by simpa using h2))
      · exact fin 2 (by decide) (rm3 (by simpa using h1) (by simpa using h2) (by simpa using h3))
      · exact fin _ h4 (rm4 (by simpa using h1) (by simpa using h2) (by simpa using h3) h4)
      · obtain ⟨l1, l2, l3⟩ := flE_len h4
        have hat := inB_iff.1 (show inB at' 0 P.length = true by simpa using h3)
        refine ⟨⟨⟨rfl, rfl, rfl, rfl, rfl⟩, watB_iff.1 l2, hat, by omega⟩, cond_b (fun h5 => ?_) (fun h5 => ⟨fitP_self rfl, ⟨watB_iff.1 l2, hat, by omega⟩, ?_⟩)⟩
        · exact fin 11 (by decide) (rm5 (by simpa using h1) (by simpa using h2) (by simpa using h3) h4 (by simpa using h5))
        · have h6 := rm6 (by simpa using h1) (by simpa using h2) (by simpa using h3) h4 (show fitF w P at'.toNat lim 0 = true by simpa using h5)
          unfold rmV
          rw [rmH_0 h6, h6])
  subst hQ
  exact ⟨h', hc⟩

/-- Room as a row. -/
def rmT (f : FuncId) : FuncId × Spec1 := (f, fun _ args h K => match args with
  | [.agg [.int .i64 a, .int .i64 b, .int .i64 c, .int .i64 d], v, .int .i64 at', .int .i64 lim] => ∃ P : List Pt, isList h v P.length 9 (pG P) ∧ K (.ret (rmV ⟨a, b, c, d⟩ P at' lim)) h
  | _ => False)

theorem rmT_ok {f : FuncId} (hf : ∀ (w : Wt) (P : List Pt) (at' lim : Int) (cap : Nat), ∃ h', CallsV Try.prog f [.agg (wtL w), .slice (.el 0 [] 0 0) P.length cap, I at', I lim] ⟨1, [(0, ptsA P.length (pF P))]⟩ (.ret (rmV w P at' lim)) h') : SpOk Try.prog (rmT f).1 (rmT f).2 := by
  intro lock args h K hK
  simp only [rmT] at hK
  split at hK
  · rename_i a b c d v at' lim
    obtain ⟨P, hl, hK⟩ := hK
    refine ⟨_, h, hK, lockP_refl _ _, calls_listsP (ags := [.v (.agg (wtL ⟨a, b, c, d⟩)), .l P.length 9 (pG P), .v (I at'), .v (I lim)]) (fun cs => ?_) rfl ⟨_, rfl, rfl, _, _, rfl, hl, fun _ _ => rfl, _, rfl, rfl, _, rfl, rfl, rfl⟩⟩
    cases cs with
    | nil => exact hf ⟨a, b, c, d⟩ P at' lim 0
    | cons c' cs => exact hf ⟨a, b, c, d⟩ P at' lim c'
  · exact hK.elim

theorem rm19_ok : SpOk Try.prog (rmT 19).1 (rmT 19).2 := rmT_ok room19
end Go.Sx.Str
