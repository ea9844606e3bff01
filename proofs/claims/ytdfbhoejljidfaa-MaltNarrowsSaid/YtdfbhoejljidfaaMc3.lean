/- malt: the law MaltConserves, evaluated. -/
import Derived.Test.YtdfbhoejljidfaaMc2

namespace Go.Sx.Malt
open Go Go.Sx Go.Proofs
set_option maxRecDepth 100000

def c2H (ok : List Int → Int → Prop) (kf af bf : Int → Int) (ok1 : List Int → Int → Prop) (zf : Int → Int) : VH := ⟨2, [(0, .arr 3 ok (gS kf af bf)), (1, .arr 1 ok1 (gB zf))]⟩

/-- A number from one to another one that is not less, as a row. -/
def pickA : FuncId × Spec1 := (19, fun _ args h K => match args with
  | [.int .i64 lo, .int .i64 hi, .int .u32 z] => (PkOk lo hi z ∧ lo ≤ hi) ∧ K (.ret (.tup [I (pk lo hi z), .bool true])) h
  | _ => False)

def c2T (S : VB → VV → Prop) (F : Int → Int → Int → Int → Int → Int → Vat × Int × Int) (M N : Int → Int → Int → Int → Int → Int → Int × Int × Int) (B : Int → Int → Int → Int → Int → Int → Bool) : List (FuncId × Spec1) :=
  [awT, plRow 12 S F, maltT 18 B, pickA, moRow 14 M, moRow 16 N]

theorem law2_ev (ok ok1 : List Int → Int → Prop) (kf af bf zf : Int → Int) (S : VB → VV → Prop) (F : Int → Int → Int → Int → Int → Int → Vat × Int × Int) (M N : Int → Int → Int → Int → Int → Int → Int × Int × Int) (B : Int → Int → Int → Int → Int → Int → Bool) (G : Prop) (n k nb cb : Nat) (a b c d e f : Int) (Q : Bool → Prop) : spBL Try.prog 4 (tabS (c2T S F M N B)) [(0, conB ok ok1 kf af bf zf (F a b c d e f).1 G n k nb cb (vat0 a b c d e f))] 10 20 0 [.agg [I a, I b, I c, I d, I e, I f], .slice (.el 0 [] 0 0) n k, .slice (.el 1 [] 0 0) nb cb] (c2H ok kf af bf ok1 zf) (boQ Q) =
  (bif decide ((↑n : Int) > (40 : Int)) then
 Q true
 else bif decide ((↑nb : Int) = (0 : Int)) then
 Q true
 else S (VB.arr 3 ok (gS kf af bf)) (VV.slice (VA.el 0 [] (0 : Int) 0) n k) ∧ bif !decide ((F a b c d e f).snd.snd = (0 : Int)) then
 bif decide ((F a b c d e f).fst.dl = (0 : Int)) && (decide ((F a b c d e f).fst.dh = (0 : Int)) && true) && (decide ((F a b c d e f).fst.wl = (0 : Int)) && (decide ((F a b c d e f).fst.wh = (0 : Int)) && true) && (decide ((F a b c d e f).fst.pl = (0 : Int)) && (decide ((F a b c d e f).fst.ph = (0 : Int)) && true) && true)) then
 bif decide ((F a b c d e f).fst.tl = (0 : Int)) && (decide ((F a b c d e f).fst.th = (0 : Int)) && true) && (decide ((F a b c d e f).fst.gl = (0 : Int)) && (decide ((F a b c d e f).fst.gh = (0 : Int)) && true) && (decide ((F a b c d e f).fst.rl = (0 : Int)) && (decide ((F a b c d e f).fst.rh = (0 : Int)) && true) && (decide ((F a b c d e f).fst.sl = (0 : Int)) && (decide ((F a b c d e f).fst.sh = (0 : Int)) && true) && true))) then
 bif decide ((F a b c d e f).snd.fst ≥ (0 : Int)) then
 bif decide ((F a b c d e f).snd.fst ≤ (↑n : Int)) then
 Q true
 else Q false
 else Q false
 else Q false
 else Q false
 else bif !B a b c d e f then
 Q false
 else bif !decide ((F a b c d e f).snd.fst = (↑n : Int)) then
 Q false
 else bif decide ((0 : Int) ≤ (0 : Int) ∧ (0 : Int) < (↑nb : Int)) then
 ok1 [] ((0 : Int) + (0 : Int)) ∧ (PkOk a b (zf ((0 : Int) + (0 : Int))) ∧ a ≤ b) ∧ bif decide ((↑nb : Int) = (0 : Int)) then
 False
 else bif decide ((0 : Int) ≤ remZ (1 : Int) (↑nb : Int) ∧ remZ (1 : Int) (↑nb : Int) < (↑nb : Int)) then
 ok1 [] ((0 : Int) + remZ (1 : Int) (↑nb : Int)) ∧ (PkOk c d (zf ((0 : Int) + remZ (1 : Int) (↑nb : Int))) ∧ c ≤ d) ∧ bif decide ((↑nb : Int) = (0 : Int)) then
 False
 else bif decide ((0 : Int) ≤ remZ (2 : Int) (↑nb : Int) ∧ remZ (2 : Int) (↑nb : Int) < (↑nb : Int)) then
 ok1 [] ((0 : Int) + remZ (2 : Int) (↑nb : Int)) ∧ (PkOk e f (zf ((0 : Int) + remZ (2 : Int) (↑nb : Int))) ∧ e ≤ f) ∧ bif inK IntKind.i64 (pk a b (zf ((0 : Int) + (0 : Int))) + pk c d (zf ((0 : Int) + remZ (1 : Int) (↑nb : Int)))) then
 ((G ∧ FitP 0 { nx := nat_lit 3 + 1 + 1, bs := [(nat_lit 3 + 1, VB.cells [I (F a b c d e f).fst.tl, I (F a b c d e f).fst.th, I (F a b c d e f).fst.gl, I (F a b c d e f).fst.gh, I (F a b c d e f).fst.rl, I (F a b c d e f).fst.rh, I (F a b c d e f).fst.sl, I (F a b c d e f).fst.sh] 29), (nat_lit 2 + 1, VB.cells [I (F a b c d e f).fst.dl, I (F a b c d e f).fst.dh, I (F a b c d e f).fst.wl, I (F a b c d e f).fst.wh, I (F a b c d e f).fst.pl, I (F a b c d e f).fst.ph] 25), (nat_lit 3 + 1, VB.cells [I 0, I 0, I 0, I 0, I 0, I 0, I 0, I 0] 29), (nat_lit 2 + 1, VB.cells [I 0, I 0, I 0, I 0, I 0, I 0] 25), (nat_lit 1 + 1, VB.cells [I a, I b, I c, I d, I e, I f] 25), (0, VB.arr 3 ok (gS kf af bf)), (1, VB.arr 1 ok1 (gB zf))] } [(22, I 0), (21, I 0), (20, I 0), (19, I 0), (18, I 0), (17, I (pk a b (zf ((0 : Int) + (0 : Int))) + pk c d (zf ((0 : Int) + remZ (1 : Int) (↑nb : Int))))), (127, I (pk a b (zf ((0 : Int) + (0 : Int))) + pk c d (zf ((0 : Int) + remZ (1 : Int) (↑nb : Int))))), (126, I (pk c d (zf ((0 : Int) + remZ (1 : Int) (↑nb : Int))))), (125, I (pk a b (zf ((0 : Int) + (0 : Int))))), (16, VV.bool true), (15, I (pk e f (zf ((0 : Int) + remZ (2 : Int) (↑nb : Int))))), (124, VV.bool true), (123, I (pk e f (zf ((0 : Int) + remZ (2 : Int) (↑nb : Int))))), (109, VV.tup [I (pk e f (zf ((0 : Int) + remZ (2 : Int) (↑nb : Int)))), VV.bool true]), (122, VV.tup [I (pk e f (zf ((0 : Int) + remZ (2 : Int) (↑nb : Int)))), VV.bool true]), (121, VV.int IntKind.u32 (zf ((0 : Int) + remZ (2 : Int) (↑nb : Int)))), (120, VV.ptr (VA.el 1 [] ((0 : Int) + remZ (2 : Int) (↑nb : Int)) 0)), (119, I (remZ (2 : Int) (↑nb : Int))), (118, I (↑nb : Int)), (117, VV.slice (VA.el 1 [] (0 : Int) 0) nb cb), (116, VV.slice (VA.el 1 [] (0 : Int) 0) nb cb), (115, I f), (114, VV.ptr (VA.own (nat_lit 1 + 1) (nat_lit 4 + 1))), (113, VV.ptr (VA.own (nat_lit 1 + 1) (nat_lit 3 + 1))), (112, I e), (111, VV.ptr (VA.own (nat_lit 1 + 1) (nat_lit 3 + 1))), (110, VV.ptr (VA.own (nat_lit 1 + 1) (nat_lit 3 + 1))), (14, VV.bool true), (13, I (pk c d (zf ((0 : Int) + remZ (1 : Int) (↑nb : Int))))), (108, VV.bool true), (107, I (pk c d (zf ((0 : Int) + remZ (1 : Int) (↑nb : Int))))), (93, VV.tup [I (pk c d (zf ((0 : Int) + remZ (1 : Int) (↑nb : Int)))), VV.bool true]), (106, VV.tup [I (pk c d (zf ((0 : Int) + remZ (1 : Int) (↑nb : Int)))), VV.bool true]), (105, VV.int IntKind.u32 (zf ((0 : Int) + remZ (1 : Int) (↑nb : Int)))), (104, VV.ptr (VA.el 1 [] ((0 : Int) + remZ (1 : Int) (↑nb : Int)) 0)), (103, I (remZ (1 : Int) (↑nb : Int))), (102, I (↑nb : Int)), (101, VV.slice (VA.el 1 [] (0 : Int) 0) nb cb), (100, VV.slice (VA.el 1 [] (0 : Int) 0) nb cb), (99, I d), (98, VV.ptr (VA.own (nat_lit 1 + 1) (nat_lit 2 + 1))), (97, VV.ptr (VA.own (nat_lit 1 + 1) (nat_lit 1 + 1))), (96, I c), (95, VV.ptr (VA.own (nat_lit 1 + 1) (nat_lit 1 + 1))), (94, VV.ptr (VA.own (nat_lit 1 + 1) (nat_lit 1 + 1))), (12, VV.bool true), (11, I (pk a b (zf ((0 : Int) + (0 : Int))))), (92, VV.bool true), (91, I (pk a b (zf ((0 : Int) + (0 : Int))))), (80, VV.tup [I (pk a b (zf ((0 : Int) + (0 : Int)))), VV.bool true]), (90, VV.tup [I (pk a b (zf ((0 : Int) + (0 : Int)))), VV.bool true]), (89, VV.int IntKind.u32 (zf ((0 : Int) + (0 : Int)))), (88, VV.ptr (VA.el 1 [] ((0 : Int) + (0 : Int)) 0)), (87, VV.slice (VA.el 1 [] (0 : Int) 0) nb cb), (86, I b), (85, VV.ptr (VA.own (nat_lit 1 + 1) (nat_lit 0 + 1))), (84, VV.ptr (VA.own (nat_lit 1 + 1) 0)), (83, I a), (82, VV.ptr (VA.own (nat_lit 1 + 1) 0)), (81, VV.ptr (VA.own (nat_lit 1 + 1) 0)), (79, VV.bool false), (79, VV.bool !decide ((F a b c d e f).snd.fst = (↑n : Int))), (78, VV.bool !decide ((F a b c d e f).snd.fst = (↑n : Int))), (74, VV.bool false), (77, I (↑n : Int)), (74, VV.bool false), (76, VV.slice (VA.el 0 [] (0 : Int) 0) n k), (74, VV.bool false), (75, I (F a b c d e f).snd.fst), (74, VV.bool false), (74, VV.bool !B a b c d e f), (73, VV.bool !B a b c d e f), (72, VV.bool (B a b c d e f)), (71, VV.agg [I a, I b, I c, I d, I e, I f]), (49, VV.bool false), (49, VV.bool !decide ((F a b c d e f).snd.snd = (0 : Int))), (48, I (F a b c d e f).snd.snd), (10, I (F a b c d e f).snd.snd), (9, I (F a b c d e f).snd.fst), (8, VV.ptr (VA.own (nat_lit 3 + 1) 0)), (7, VV.ptr (VA.own (nat_lit 2 + 1) 0)), (47, I (F a b c d e f).snd.snd), (46, I (F a b c d e f).snd.fst), (45, VV.agg (vat8 (F a b c d e f).fst)), (44, VV.agg (vat6 (F a b c d e f).fst)), (40, VV.tup [VV.agg (vat6 (F a b c d e f).fst), VV.agg (vat8 (F a b c d e f).fst), I (F a b c d e f).snd.fst, I (F a b c d e f).snd.snd]), (43, VV.tup [VV.agg (vat6 (F a b c d e f).fst), VV.agg (vat8 (F a b c d e f).fst), I (F a b c d e f).snd.fst, I (F a b c d e f).snd.snd]), (42, VV.slice (VA.el 0 [] (0 : Int) 0) n k), (41, VV.agg [I a, I b, I c, I d, I e, I f]), (38, VV.bool false), (38, VV.bool (decide ((↑nb : Int) = (0 : Int)))), (37, VV.bool (decide ((↑nb : Int) = (0 : Int)))), (34, VV.bool false), (36, I (↑nb : Int)), (34, VV.bool false), (35, VV.slice (VA.el 1 [] (0 : Int) 0) nb cb), (34, VV.bool false), (34, VV.bool (decide ((↑n : Int) > (40 : Int)))), (33, VV.bool (decide ((↑n : Int) > (40 : Int)))), (32, I (↑n : Int)), (31, VV.slice (VA.el 0 [] (0 : Int) 0) n k), (6, VV.bool false), (3, VV.ptr (VA.own (nat_lit 1 + 1) 0)), (0, VV.agg [I a, I b, I c, I d, I e, I f]), (nat_lit 0 + 1, VV.slice (VA.el 0 [] (0 : Int) 0) n k), (nat_lit 1 + 1, VV.slice (VA.el 1 [] (0 : Int) 0) nb cb)] (cH ok ok1 kf af bf zf (F a b c d e f).fst) (cT n k nb cb (pk a b (zf ((0 : Int) + (0 : Int))) + pk c d (zf ((0 : Int) + remZ (1 : Int) (↑nb : Int)))) (0 : Int) { dry := pk a b (zf ((0 : Int) + (0 : Int))), water := pk c d (zf ((0 : Int) + remZ (1 : Int) (↑nb : Int))), phenol := pk e f (zf ((0 : Int) + remZ (2 : Int) (↑nb : Int))), taken := (0 : Int), gas := (0 : Int), roots := (0 : Int), steam := (0 : Int) })) ∧ Inv (pk a b (zf ((0 : Int) + (0 : Int))) + pk c d (zf ((0 : Int) + remZ (1 : Int) (↑nb : Int)))) (vat0 a b c d e f) { dry := pk a b (zf ((0 : Int) + (0 : Int))), water := pk c d (zf ((0 : Int) + remZ (1 : Int) (↑nb : Int))), phenol := pk e f (zf ((0 : Int) + remZ (2 : Int) (↑nb : Int))), taken := (0 : Int), gas := (0 : Int), roots := (0 : Int), steam := (0 : Int) }) ∧ (∀ (x : Tru), Inv (pk a b (zf ((0 : Int) + (0 : Int))) + pk c d (zf ((0 : Int) + remZ (1 : Int) (↑nb : Int)))) (F a b c d e f).fst x → bif inK IntKind.i64 (pk a b (zf ((0 : Int) + (0 : Int))) + pk c d (zf ((0 : Int) + remZ (1 : Int) (↑nb : Int))) + x.taken) then
 bif inK IntKind.i64 (x.dry + x.water) then
 bif inK IntKind.i64 (x.dry + x.water + x.gas) then
 bif inK IntKind.i64 (x.dry + x.water + x.gas + x.roots) then
 bif inK IntKind.i64 (x.dry + x.water + x.gas + x.roots + x.steam) then
 bif !decide (pk a b (zf ((0 : Int) + (0 : Int))) + pk c d (zf ((0 : Int) + remZ (1 : Int) (↑nb : Int))) + x.taken = x.dry + x.water + x.gas + x.roots + x.steam) then
 Q false
 else bif decide ((F a b c d e f).fst.dl ≤ x.dry) then
 bif !decide (x.dry ≤ (F a b c d e f).fst.dh) then
 Q false
 else bif decide ((F a b c d e f).fst.wl ≤ x.water) then
 bif !decide (x.water ≤ (F a b c d e f).fst.wh) then
 Q false
 else bif decide ((F a b c d e f).fst.pl ≤ x.phenol) then
 bif !decide (x.phenol ≤ (F a b c d e f).fst.ph) then
 Q false
 else bif decide ((F a b c d e f).fst.tl ≤ x.taken) then
 bif !decide (x.taken ≤ (F a b c d e f).fst.th) then
 Q false
 else bif decide ((F a b c d e f).fst.gl ≤ x.gas) then
 bif !decide (x.gas ≤ (F a b c d e f).fst.gh) then
 Q false
 else bif decide ((F a b c d e f).fst.rl ≤ x.roots) then
 bif !decide (x.roots ≤ (F a b c d e f).fst.rh) then
 Q false
 else bif decide ((F a b c d e f).fst.sl ≤ x.steam) then
 bif !decide (x.steam ≤ (F a b c d e f).fst.sh) then
 Q false
 else bif decide ((M (F a b c d e f).fst.dl (F a b c d e f).fst.dh (F a b c d e f).fst.wl (F a b c d e f).fst.wh (F a b c d e f).fst.pl (F a b c d e f).fst.ph).snd.snd = (0 : Int)) then
 bif inK IntKind.i64 (x.dry + x.water) then
 bif decide (x.dry + x.water > (0 : Int)) then
 bif inK IntKind.i64 ((10000 : Int) * x.water) then
 bif inK IntKind.i64 (x.dry + x.water) then
 bif inK IntKind.i64 ((M (F a b c d e f).fst.dl (F a b c d e f).fst.dh (F a b c d e f).fst.wl (F a b c d e f).fst.wh (F a b c d e f).fst.pl (F a b c d e f).fst.ph).fst * (x.dry + x.water)) then
 bif decide ((10000 : Int) * x.water < (M (F a b c d e f).fst.dl (F a b c d e f).fst.dh (F a b c d e f).fst.wl (F a b c d e f).fst.wh (F a b c d e f).fst.pl (F a b c d e f).fst.ph).fst * (x.dry + x.water)) then
 Q false
 else bif inK IntKind.i64 ((10000 : Int) * x.water) then
 bif inK IntKind.i64 (x.dry + x.water) then
 bif inK IntKind.i64 ((M (F a b c d e f).fst.dl (F a b c d e f).fst.dh (F a b c d e f).fst.wl (F a b c d e f).fst.wh (F a b c d e f).fst.pl (F a b c d e f).fst.ph).snd.fst * (x.dry + x.water)) then
 bif decide ((10000 : Int) * x.water > (M (F a b c d e f).fst.dl (F a b c d e f).fst.dh (F a b c d e f).fst.wl (F a b c d e f).fst.wh (F a b c d e f).fst.pl (F a b c d e f).fst.ph).snd.fst * (x.dry + x.water)) then
 Q false
 else bif decide ((N (F a b c d e f).fst.dl (F a b c d e f).fst.dh (F a b c d e f).fst.wl (F a b c d e f).fst.wh (F a b c d e f).fst.pl (F a b c d e f).fst.ph).snd.snd = (0 : Int)) then
 bif decide (x.dry ≤ (0 : Int)) then
 Q false
 else bif inK IntKind.i64 ((1000 : Int) * x.phenol) then
 bif decide (x.dry = (0 : Int)) then
 False
 else bif inK IntKind.i64 (quoZ ((1000 : Int) * x.phenol) x.dry) then
 bif decide (quoZ ((1000 : Int) * x.phenol) x.dry < (N (F a b c d e f).fst.dl (F a b c d e f).fst.dh (F a b c d e f).fst.wl (F a b c d e f).fst.wh (F a b c d e f).fst.pl (F a b c d e f).fst.ph).fst) then
 Q false
 else bif inK IntKind.i64 ((1000 : Int) * x.phenol) then
 bif inK IntKind.i64 ((1000 : Int) * x.phenol + x.dry) then
 bif inK IntKind.i64 ((1000 : Int) * x.phenol + x.dry - (1 : Int)) then
 bif decide (x.dry = (0 : Int)) then
 False
 else bif inK IntKind.i64 (quoZ ((1000 : Int) * x.phenol + x.dry - (1 : Int)) x.dry) then
 bif decide (quoZ ((1000 : Int) * x.phenol + x.dry - (1 : Int)) x.dry > (N (F a b c d e f).fst.dl (F a b c d e f).fst.dh (F a b c d e f).fst.wl (F a b c d e f).fst.wh (F a b c d e f).fst.pl (F a b c d e f).fst.ph).snd.fst) then
 Q false
 else Q true
 else False
 else False
 else False
 else False
 else False
 else False
 else Q true
 else False
 else False
 else False
 else False
 else False
 else False
 else bif decide ((N (F a b c d e f).fst.dl (F a b c d e f).fst.dh (F a b c d e f).fst.wl (F a b c d e f).fst.wh (F a b c d e f).fst.pl (F a b c d e f).fst.ph).snd.snd = (0 : Int)) then
 bif decide (x.dry ≤ (0 : Int)) then
 Q false
 else bif inK IntKind.i64 ((1000 : Int) * x.phenol) then
 bif decide (x.dry = (0 : Int)) then
 False
 else bif inK IntKind.i64 (quoZ ((1000 : Int) * x.phenol) x.dry) then
 bif decide (quoZ ((1000 : Int) * x.phenol) x.dry < (N (F a b c d e f).fst.dl (F a b c d e f).fst.dh (F a b c d e f).fst.wl (F a b c d e f).fst.wh (F a b c d e f).fst.pl (F a b c d e f).fst.ph).fst) then
 Q false
 else bif inK IntKind.i64 ((1000 : Int) * x.phenol) then
 bif inK IntKind.i64 ((1000 : Int) * x.phenol + x.dry) then
 bif inK IntKind.i64 ((1000 : Int) * x.phenol + x.dry - (1 : Int)) then
 bif decide (x.dry = (0 : Int)) then
 False
 else bif inK IntKind.i64 (quoZ ((1000 : Int) * x.phenol + x.dry - (1 : Int)) x.dry) then
 bif decide (quoZ ((1000 : Int) * x.phenol + x.dry - (1 : Int)) x.dry > (N (F a b c d e f).fst.dl (F a b c d e f).fst.dh (F a b c d e f).fst.wl (F a b c d e f).fst.wh (F a b c d e f).fst.pl (F a b c d e f).fst.ph).snd.fst) then
 Q false
 else Q true
 else False
 else False
 else False
 else False
 else False
 else False
 else Q true
 else False
 else bif decide ((N (F a b c d e f).fst.dl (F a b c d e f).fst.dh (F a b c d e f).fst.wl (F a b c d e f).fst.wh (F a b c d e f).fst.pl (F a b c d e f).fst.ph).snd.snd = (0 : Int)) then
 bif decide (x.dry ≤ (0 : Int)) then
 Q false
 else bif inK IntKind.i64 ((1000 : Int) * x.phenol) then
 bif decide (x.dry = (0 : Int)) then
 False
 else bif inK IntKind.i64 (quoZ ((1000 : Int) * x.phenol) x.dry) then
 bif decide (quoZ ((1000 : Int) * x.phenol) x.dry < (N (F a b c d e f).fst.dl (F a b c d e f).fst.dh (F a b c d e f).fst.wl (F a b c d e f).fst.wh (F a b c d e f).fst.pl (F a b c d e f).fst.ph).fst) then
 Q false
 else bif inK IntKind.i64 ((1000 : Int) * x.phenol) then
 bif inK IntKind.i64 ((1000 : Int) * x.phenol + x.dry) then
 bif inK IntKind.i64 ((1000 : Int) * x.phenol + x.dry - (1 : Int)) then
 bif decide (x.dry = (0 : Int)) then
 False
 else bif inK IntKind.i64 (quoZ ((1000 : Int) * x.phenol + x.dry - (1 : Int)) x.dry) then
 bif decide (quoZ ((1000 : Int) * x.phenol + x.dry - (1 : Int)) x.dry > (N (F a b c d e f).fst.dl (F a b c d e f).fst.dh (F a b c d e f).fst.wl (F a b c d e f).fst.wh (F a b c d e f).fst.pl (F a b c d e f).fst.ph).snd.fst) then
 Q false
 else Q true
 else False
 else False
 else False
 else False
 else False
 else False
 else Q true
 else Q false
 else Q false
 else Q false
 else Q false
 else Q false
 else Q false
 else Q false
 else False
 else False
 else False
 else False
 else False) ∧ Q true
 else False
 else False
 else False
 else False) := by kernel_rfl

theorem law2n_ev (ok ok1 : List Int → Int → Prop) (kf af bf zf : Int → Int) (S : VB → VV → Prop) (F : Int → Int → Int → Int → Int → Int → Vat × Int × Int) (M N : Int → Int → Int → Int → Int → Int → Int × Int × Int) (B : Int → Int → Int → Int → Int → Int → Bool) (nb cb : Nat) (a b c d e f : Int) (Q : Bool → Prop) : spBL Try.prog 4 (tabS (c2T S F M N B)) [] 10 20 0 [.agg [I a, I b, I c, I d, I e, I f], .nils, .slice (.el 1 [] 0 0) nb cb] (c2H ok kf af bf ok1 zf) (boQ Q) =
  (bif decide ((↑nb : Int) = (0 : Int)) then
 Q true
 else S (VB.arr 3 ok (gS kf af bf)) VV.nils ∧ bif !decide ((F a b c d e f).snd.snd = (0 : Int)) then
 bif decide ((F a b c d e f).fst.dl = (0 : Int)) && (decide ((F a b c d e f).fst.dh = (0 : Int)) && true) && (decide ((F a b c d e f).fst.wl = (0 : Int)) && (decide ((F a b c d e f).fst.wh = (0 : Int)) && true) && (decide ((F a b c d e f).fst.pl = (0 : Int)) && (decide ((F a b c d e f).fst.ph = (0 : Int)) && true) && true)) then
 bif decide ((F a b c d e f).fst.tl = (0 : Int)) && (decide ((F a b c d e f).fst.th = (0 : Int)) && true) && (decide ((F a b c d e f).fst.gl = (0 : Int)) && (decide ((F a b c d e f).fst.gh = (0 : Int)) && true) && (decide ((F a b c d e f).fst.rl = (0 : Int)) && (decide ((F a b c d e f).fst.rh = (0 : Int)) && true) && (decide ((F a b c d e f).fst.sl = (0 : Int)) && (decide ((F a b c d e f).fst.sh = (0 : Int)) && true) && true))) then
 bif decide ((F a b c d e f).snd.fst ≥ (0 : Int)) then
 bif decide ((F a b c d e f).snd.fst ≤ (0 : Int)) then
 Q true
 else Q false
 else Q false
 else Q false
 else Q false
 else bif !B a b c d e f then
 Q false
 else bif !decide ((F a b c d e f).snd.fst = (0 : Int)) then
 Q false
 else bif decide ((0 : Int) ≤ (0 : Int) ∧ (0 : Int) < (↑nb : Int)) then
 ok1 [] ((0 : Int) + (0 : Int)) ∧ (PkOk a b (zf ((0 : Int) + (0 : Int))) ∧ a ≤ b) ∧ bif decide ((↑nb : Int) = (0 : Int)) then
 False
 else bif decide ((0 : Int) ≤ remZ (1 : Int) (↑nb : Int) ∧ remZ (1 : Int) (↑nb : Int) < (↑nb : Int)) then
 ok1 [] ((0 : Int) + remZ (1 : Int) (↑nb : Int)) ∧ (PkOk c d (zf ((0 : Int) + remZ (1 : Int) (↑nb : Int))) ∧ c ≤ d) ∧ bif decide ((↑nb : Int) = (0 : Int)) then
 False
 else bif decide ((0 : Int) ≤ remZ (2 : Int) (↑nb : Int) ∧ remZ (2 : Int) (↑nb : Int) < (↑nb : Int)) then
 ok1 [] ((0 : Int) + remZ (2 : Int) (↑nb : Int)) ∧ (PkOk e f (zf ((0 : Int) + remZ (2 : Int) (↑nb : Int))) ∧ e ≤ f) ∧ bif inK IntKind.i64 (pk a b (zf ((0 : Int) + (0 : Int))) + pk c d (zf ((0 : Int) + remZ (1 : Int) (↑nb : Int)))) then
 bif inK IntKind.i64 (pk a b (zf ((0 : Int) + (0 : Int))) + pk c d (zf ((0 : Int) + remZ (1 : Int) (↑nb : Int))) + (0 : Int)) then
 bif inK IntKind.i64 (pk a b (zf ((0 : Int) + (0 : Int))) + pk c d (zf ((0 : Int) + remZ (1 : Int) (↑nb : Int)))) then
 bif inK IntKind.i64 (pk a b (zf ((0 : Int) + (0 : Int))) + pk c d (zf ((0 : Int) + remZ (1 : Int) (↑nb : Int))) + (0 : Int)) then
 bif inK IntKind.i64 (pk a b (zf ((0 : Int) + (0 : Int))) + pk c d (zf ((0 : Int) + remZ (1 : Int) (↑nb : Int))) + (0 : Int) + (0 : Int)) then
 bif inK IntKind.i64 (pk a b (zf ((0 : Int) + (0 : Int))) + pk c d (zf ((0 : Int) + remZ (1 : Int) (↑nb : Int))) + (0 : Int) + (0 : Int) + (0 : Int)) then
 bif !decide (pk a b (zf ((0 : Int) + (0 : Int))) + pk c d (zf ((0 : Int) + remZ (1 : Int) (↑nb : Int))) + (0 : Int) = pk a b (zf ((0 : Int) + (0 : Int))) + pk c d (zf ((0 : Int) + remZ (1 : Int) (↑nb : Int))) + (0 : Int) + (0 : Int) + (0 : Int)) then
 Q false
 else bif decide ((F a b c d e f).fst.dl ≤ pk a b (zf ((0 : Int) + (0 : Int)))) then
 bif !decide (pk a b (zf ((0 : Int) + (0 : Int))) ≤ (F a b c d e f).fst.dh) then
 Q false
 else bif decide ((F a b c d e f).fst.wl ≤ pk c d (zf ((0 : Int) + remZ (1 : Int) (↑nb : Int)))) then
 bif !decide (pk c d (zf ((0 : Int) + remZ (1 : Int) (↑nb : Int))) ≤ (F a b c d e f).fst.wh) then
 Q false
 else bif decide ((F a b c d e f).fst.pl ≤ pk e f (zf ((0 : Int) + remZ (2 : Int) (↑nb : Int)))) then
 bif !decide (pk e f (zf ((0 : Int) + remZ (2 : Int) (↑nb : Int))) ≤ (F a b c d e f).fst.ph) then
 Q false
 else bif decide ((F a b c d e f).fst.tl ≤ (0 : Int)) then
 bif !decide ((0 : Int) ≤ (F a b c d e f).fst.th) then
 Q false
 else bif decide ((F a b c d e f).fst.gl ≤ (0 : Int)) then
 bif !decide ((0 : Int) ≤ (F a b c d e f).fst.gh) then
 Q false
 else bif decide ((F a b c d e f).fst.rl ≤ (0 : Int)) then
 bif !decide ((0 : Int) ≤ (F a b c d e f).fst.rh) then
 Q false
 else bif decide ((F a b c d e f).fst.sl ≤ (0 : Int)) then
 bif !decide ((0 : Int) ≤ (F a b c d e f).fst.sh) then
 Q false
 else bif decide ((M (F a b c d e f).fst.dl (F a b c d e f).fst.dh (F a b c d e f).fst.wl (F a b c d e f).fst.wh (F a b c d e f).fst.pl (F a b c d e f).fst.ph).snd.snd = (0 : Int)) then
 bif inK IntKind.i64 (pk a b (zf ((0 : Int) + (0 : Int))) + pk c d (zf ((0 : Int) + remZ (1 : Int) (↑nb : Int)))) then
 bif decide (pk a b (zf ((0 : Int) + (0 : Int))) + pk c d (zf ((0 : Int) + remZ (1 : Int) (↑nb : Int))) > (0 : Int)) then
 bif inK IntKind.i64 ((10000 : Int) * pk c d (zf ((0 : Int) + remZ (1 : Int) (↑nb : Int)))) then
 bif inK IntKind.i64 (pk a b (zf ((0 : Int) + (0 : Int))) + pk c d (zf ((0 : Int) + remZ (1 : Int) (↑nb : Int)))) then
 bif inK IntKind.i64 ((M (F a b c d e f).fst.dl (F a b c d e f).fst.dh (F a b c d e f).fst.wl (F a b c d e f).fst.wh (F a b c d e f).fst.pl (F a b c d e f).fst.ph).fst * (pk a b (zf ((0 : Int) + (0 : Int))) + pk c d (zf ((0 : Int) + remZ (1 : Int) (↑nb : Int))))) then
 bif decide ((10000 : Int) * pk c d (zf ((0 : Int) + remZ (1 : Int) (↑nb : Int))) < (M (F a b c d e f).fst.dl (F a b c d e f).fst.dh (F a b c d e f).fst.wl (F a b c d e f).fst.wh (F a b c d e f).fst.pl (F a b c d e f).fst.ph).fst * (pk a b (zf ((0 : Int) + (0 : Int))) + pk c d (zf ((0 : Int) + remZ (1 : Int) (↑nb : Int))))) then
 Q false
 else bif inK IntKind.i64 ((10000 : Int) * pk c d (zf ((0 : Int) + remZ (1 : Int) (↑nb : Int)))) then
 bif inK IntKind.i64 (pk a b (zf ((0 : Int) + (0 : Int))) + pk c d (zf ((0 : Int) + remZ (1 : Int) (↑nb : Int)))) then
 bif inK IntKind.i64 ((M (F a b c d e f).fst.dl (F a b c d e f).fst.dh (F a b c d e f).fst.wl (F a b c d e f).fst.wh (F a b c d e f).fst.pl (F a b c d e f).fst.ph).snd.fst * (pk a b (zf ((0 : Int) + (0 : Int))) + pk c d (zf ((0 : Int) + remZ (1 : Int) (↑nb : Int))))) then
 bif decide ((10000 : Int) * pk c d (zf ((0 : Int) + remZ (1 : Int) (↑nb : Int))) > (M (F a b c d e f).fst.dl (F a b c d e f).fst.dh (F a b c d e f).fst.wl (F a b c d e f).fst.wh (F a b c d e f).fst.pl (F a b c d e f).fst.ph).snd.fst * (pk a b (zf ((0 : Int) + (0 : Int))) + pk c d (zf ((0 : Int) + remZ (1 : Int) (↑nb : Int))))) then
 Q false
 else bif decide ((N (F a b c d e f).fst.dl (F a b c d e f).fst.dh (F a b c d e f).fst.wl (F a b c d e f).fst.wh (F a b c d e f).fst.pl (F a b c d e f).fst.ph).snd.snd = (0 : Int)) then
 bif decide (pk a b (zf ((0 : Int) + (0 : Int))) ≤ (0 : Int)) then
 Q false
 else bif inK IntKind.i64 ((1000 : Int) * pk e f (zf ((0 : Int) + remZ (2 : Int) (↑nb : Int)))) then
 bif decide (pk a b (zf ((0 : Int) + (0 : Int))) = (0 : Int)) then
 False
 else bif inK IntKind.i64 (quoZ ((1000 : Int) * pk e f (zf ((0 : Int) + remZ (2 : Int) (↑nb : Int)))) (pk a b (zf ((0 : Int) + (0 : Int))))) then
 bif decide (quoZ ((1000 : Int) * pk e f (zf ((0 : Int) + remZ (2 : Int) (↑nb : Int)))) (pk a b (zf ((0 : Int) + (0 : Int)))) < (N (F a b c d e f).fst.dl (F a b c d e f).fst.dh (F a b c d e f).fst.wl (F a b c d e f).fst.wh (F a b c d e f).fst.pl (F a b c d e f).fst.ph).fst) then
 Q false
 else bif inK IntKind.i64 ((1000 : Int) * pk e f (zf ((0 : Int) + remZ (2 : Int) (↑nb : Int)))) then
 bif inK IntKind.i64 ((1000 : Int) * pk e f (zf ((0 : Int) + remZ (2 : Int) (↑nb : Int))) + pk a b (zf ((0 : Int) + (0 : Int)))) then
 bif inK IntKind.i64 ((1000 : Int) * pk e f (zf ((0 : Int) + remZ (2 : Int) (↑nb : Int))) + pk a b (zf ((0 : Int) + (0 : Int))) - (1 : Int)) then
 bif decide (pk a b (zf ((0 : Int) + (0 : Int))) = (0 : Int)) then
 False
 else bif inK IntKind.i64 (quoZ ((1000 : Int) * pk e f (zf ((0 : Int) + remZ (2 : Int) (↑nb : Int))) + pk a b (zf ((0 : Int) + (0 : Int))) - (1 : Int)) (pk a b (zf ((0 : Int) + (0 : Int))))) then
 bif decide (quoZ ((1000 : Int) * pk e f (zf ((0 : Int) + remZ (2 : Int) (↑nb : Int))) + pk a b (zf ((0 : Int) + (0 : Int))) - (1 : Int)) (pk a b (zf ((0 : Int) + (0 : Int)))) > (N (F a b c d e f).fst.dl (F a b c d e f).fst.dh (F a b c d e f).fst.wl (F a b c d e f).fst.wh (F a b c d e f).fst.pl (F a b c d e f).fst.ph).snd.fst) then
 Q false
 else Q true
 else False
 else False
 else False
 else False
 else False
 else False
 else Q true
 else False
 else False
 else False
 else False
 else False
 else False
 else bif decide ((N (F a b c d e f).fst.dl (F a b c d e f).fst.dh (F a b c d e f).fst.wl (F a b c d e f).fst.wh (F a b c d e f).fst.pl (F a b c d e f).fst.ph).snd.snd = (0 : Int)) then
 bif decide (pk a b (zf ((0 : Int) + (0 : Int))) ≤ (0 : Int)) then
 Q false
 else bif inK IntKind.i64 ((1000 : Int) * pk e f (zf ((0 : Int) + remZ (2 : Int) (↑nb : Int)))) then
 bif decide (pk a b (zf ((0 : Int) + (0 : Int))) = (0 : Int)) then
 False
 else bif inK IntKind.i64 (quoZ ((1000 : Int) * pk e f (zf ((0 : Int) + remZ (2 : Int) (↑nb : Int)))) (pk a b (zf ((0 : Int) + (0 : Int))))) then
 bif decide (quoZ ((1000 : Int) * pk e f (zf ((0 : Int) + remZ (2 : Int) (↑nb : Int)))) (pk a b (zf ((0 : Int) + (0 : Int)))) < (N (F a b c d e f).fst.dl (F a b c d e f).fst.dh (F a b c d e f).fst.wl (F a b c d e f).fst.wh (F a b c d e f).fst.pl (F a b c d e f).fst.ph).fst) then
 Q false
 else bif inK IntKind.i64 ((1000 : Int) * pk e f (zf ((0 : Int) + remZ (2 : Int) (↑nb : Int)))) then
 bif inK IntKind.i64 ((1000 : Int) * pk e f (zf ((0 : Int) + remZ (2 : Int) (↑nb : Int))) + pk a b (zf ((0 : Int) + (0 : Int)))) then
 bif inK IntKind.i64 ((1000 : Int) * pk e f (zf ((0 : Int) + remZ (2 : Int) (↑nb : Int))) + pk a b (zf ((0 : Int) + (0 : Int))) - (1 : Int)) then
 bif decide (pk a b (zf ((0 : Int) + (0 : Int))) = (0 : Int)) then
 False
 else bif inK IntKind.i64 (quoZ ((1000 : Int) * pk e f (zf ((0 : Int) + remZ (2 : Int) (↑nb : Int))) + pk a b (zf ((0 : Int) + (0 : Int))) - (1 : Int)) (pk a b (zf ((0 : Int) + (0 : Int))))) then
 bif decide (quoZ ((1000 : Int) * pk e f (zf ((0 : Int) + remZ (2 : Int) (↑nb : Int))) + pk a b (zf ((0 : Int) + (0 : Int))) - (1 : Int)) (pk a b (zf ((0 : Int) + (0 : Int)))) > (N (F a b c d e f).fst.dl (F a b c d e f).fst.dh (F a b c d e f).fst.wl (F a b c d e f).fst.wh (F a b c d e f).fst.pl (F a b c d e f).fst.ph).snd.fst) then
 Q false
 else Q true
 else False
 else False
 else False
 else False
 else False
 else False
 else Q true
 else False
 else bif decide ((N (F a b c d e f).fst.dl (F a b c d e f).fst.dh (F a b c d e f).fst.wl (F a b c d e f).fst.wh (F a b c d e f).fst.pl (F a b c d e f).fst.ph).snd.snd = (0 : Int)) then
 bif decide (pk a b (zf ((0 : Int) + (0 : Int))) ≤ (0 : Int)) then
 Q false
 else bif inK IntKind.i64 ((1000 : Int) * pk e f (zf ((0 : Int) + remZ (2 : Int) (↑nb : Int)))) then
 bif decide (pk a b (zf ((0 : Int) + (0 : Int))) = (0 : Int)) then
 False
 else bif inK IntKind.i64 (quoZ ((1000 : Int) * pk e f (zf ((0 : Int) + remZ (2 : Int) (↑nb : Int)))) (pk a b (zf ((0 : Int) + (0 : Int))))) then
 bif decide (quoZ ((1000 : Int) * pk e f (zf ((0 : Int) + remZ (2 : Int) (↑nb : Int)))) (pk a b (zf ((0 : Int) + (0 : Int)))) < (N (F a b c d e f).fst.dl (F a b c d e f).fst.dh (F a b c d e f).fst.wl (F a b c d e f).fst.wh (F a b c d e f).fst.pl (F a b c d e f).fst.ph).fst) then
 Q false
 else bif inK IntKind.i64 ((1000 : Int) * pk e f (zf ((0 : Int) + remZ (2 : Int) (↑nb : Int)))) then
 bif inK IntKind.i64 ((1000 : Int) * pk e f (zf ((0 : Int) + remZ (2 : Int) (↑nb : Int))) + pk a b (zf ((0 : Int) + (0 : Int)))) then
 bif inK IntKind.i64 ((1000 : Int) * pk e f (zf ((0 : Int) + remZ (2 : Int) (↑nb : Int))) + pk a b (zf ((0 : Int) + (0 : Int))) - (1 : Int)) then
 bif decide (pk a b (zf ((0 : Int) + (0 : Int))) = (0 : Int)) then
 False
 else bif inK IntKind.i64 (quoZ ((1000 : Int) * pk e f (zf ((0 : Int) + remZ (2 : Int) (↑nb : Int))) + pk a b (zf ((0 : Int) + (0 : Int))) - (1 : Int)) (pk a b (zf ((0 : Int) + (0 : Int))))) then
 bif decide (quoZ ((1000 : Int) * pk e f (zf ((0 : Int) + remZ (2 : Int) (↑nb : Int))) + pk a b (zf ((0 : Int) + (0 : Int))) - (1 : Int)) (pk a b (zf ((0 : Int) + (0 : Int)))) > (N (F a b c d e f).fst.dl (F a b c d e f).fst.dh (F a b c d e f).fst.wl (F a b c d e f).fst.wh (F a b c d e f).fst.pl (F a b c d e f).fst.ph).snd.fst) then
 Q false
 else Q true
 else False
 else False
 else False
 else False
 else False
 else False
 else Q true
 else Q false
 else Q false
 else Q false
 else Q false
 else Q false
 else Q false
 else Q false
 else False
 else False
 else False
 else False
 else False
 else False
 else False
 else False
 else False) := by kernel_rfl

theorem law2b_ev (ok ok1 : List Int → Int → Prop) (kf af bf zf : Int → Int) (S : VB → VV → Prop) (F : Int → Int → Int → Int → Int → Int → Vat × Int × Int) (M N : Int → Int → Int → Int → Int → Int → Int × Int × Int) (B : Int → Int → Int → Int → Int → Int → Bool) (n k : Nat) (a b c d e f : Int) (Q : Bool → Prop) : spBL Try.prog 4 (tabS (c2T S F M N B)) [(0, fun _ _ _ _ => False)] 10 20 0 [.agg [I a, I b, I c, I d, I e, I f], .slice (.el 0 [] 0 0) n k, .nils] (c2H ok kf af bf ok1 zf) (boQ Q) =
  (bif decide ((↑n : Int) > (40 : Int)) then
 Q true
 else Q true) := by kernel_rfl

theorem law2nb_ev (ok ok1 : List Int → Int → Prop) (kf af bf zf : Int → Int) (S : VB → VV → Prop) (F : Int → Int → Int → Int → Int → Int → Vat × Int × Int) (M N : Int → Int → Int → Int → Int → Int → Int × Int × Int) (B : Int → Int → Int → Int → Int → Int → Bool) (a b c d e f : Int) (Q : Bool → Prop) : spBL Try.prog 4 (tabS (c2T S F M N B)) [] 10 20 0 [.agg [I a, I b, I c, I d, I e, I f], .nils, .nils] (c2H ok kf af bf ok1 zf) (boQ Q) =
  (Q true) := by kernel_rfl


end Go.Sx.Malt
