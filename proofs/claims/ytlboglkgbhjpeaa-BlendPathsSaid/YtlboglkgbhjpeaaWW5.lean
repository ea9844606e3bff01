/- stream: Cn3 Co3 Ce4 Cf4 Cg4 Cn4 Co4 Mc1 Mb1 Mb2 Lc1 Fb1 Fb2 Lc2 Lc3 Fb3 Fc1, in one text. -/
import Derived.Test.YtlboglkgbhjpeaaWW4
import Derived.Test.YtlboglkgbhjpeaaWW3
import Derived.Test.YtlboglkgbhjpeaaWW2
namespace Go.Sx.Bln
open Go Go.Sx Go.Proofs
set_option maxRecDepth 1000000
def nsPl3 : List Nat := [5, 7, 8, 9]
def BPl3 (Y : Nat) (M : Mde) : List VB := [.cells [sFa 7 Y, sFa 8 Y, sFa 9 Y] 76, .fam [] (Y * 6) (M 0) 80, .fam [] (Y * 6) (M 1) 80, .fam [] (Y * 6) (M 2) 80]
def lCp3 (l : List Stk) (t : Tst) (P : List (List Int)) (Y : Nat) : LT := fun lock tt h K => match h.nx with
 | 14 => ∃ (M : Mde), FitP lock h tt ⟨14, nsPl3.zip (BPl3 Y M)⟩ ((18, .nils) :: dsPl.zip (VPl l t P Y 3 0 .nils 0)) /\ K .normal ((18, .tl Y 1 (rowG l.length M 0)) :: (18 :: dsPl).zip (.sl 14 Y :: VPl l t P Y 3 0 .nils Y)) ⟨15, (14, .gone) :: (14 :: nsPl3).zip (.vec Y (rowG l.length M 0) 1 23 :: (BPl3 Y M))⟩
 | 17 => ∃ (M : Mde) (gO : Nat -> List VV), FitP lock h tt ⟨17, (16 :: nsPl3).zip (.vec 1 gO 1 26 :: BPl3 Y M)⟩ ((18, .nils) :: dsPl.zip (VPl l t P Y 3 1 (.sl 16 1) 0)) /\ K .normal ((18, .tl Y 1 (rowG l.length M 1)) :: (18 :: dsPl).zip (.sl 17 Y :: VPl l t P Y 3 1 (.sl 16 1) Y)) ⟨18, (17, .gone) :: (17 :: (16 :: nsPl3)).zip (.vec Y (rowG l.length M 1) 1 23 :: (.vec 1 gO 1 26 :: BPl3 Y M))⟩
 | 19 => ∃ (M : Mde) (gO : Nat -> List VV), FitP lock h tt ⟨19, (16 :: nsPl3).zip (.vec 2 gO 1 26 :: BPl3 Y M)⟩ ((18, .nils) :: dsPl.zip (VPl l t P Y 3 2 (.sl 16 2) 0)) /\ K .normal ((18, .tl Y 1 (rowG l.length M 2)) :: (18 :: dsPl).zip (.sl 19 Y :: VPl l t P Y 3 2 (.sl 16 2) Y)) ⟨20, (19, .gone) :: (19 :: (16 :: nsPl3)).zip (.vec Y (rowG l.length M 2) 1 23 :: (.vec 2 gO 1 26 :: BPl3 Y M))⟩
 | _ => False
theorem cp30_ev (l : List Stk) (t : Tst) (P : List (List Int)) (Y y : Nat) (M : Mde) (g : Nat -> List VV) (X : VEx -> List VV -> List VB -> Prop) : codeE Try.prog (callN Try.prog (tabS [listT]) noL 10 20) (fun _ => none) true 10 (ntOf Try.prog 17) 0 (loopB 5 (bodyOf Try.prog 17)) ((18 :: dsPl).zip (.sl 14 y :: VPl l t P Y 3 0 .nils y)) ⟨15, (14 :: nsPl3).zip (.vec y g 1 23 :: (BPl3 Y M))⟩ (obs 15 (18 :: dsPl) (14 :: nsPl3) X) =
 (let z1 := [M 0 (0 + (↑y : Int).toNat * (6) + 0), M 0 (0 + (↑y : Int).toNat * (6) + 1), M 0 (0 + (↑y : Int).toNat * (6) + 2), M 0 (0 + (↑y : Int).toNat * (6) + 3), M 0 (0 + (↑y : Int).toNat * (6) + 4), M 0 (0 + (↑y : Int).toNat * (6) + 5)];
 (bif decide ((↑y : Int) < (↑Y : Int)) then
 bif decide ((0 : Int) <= (↑y : Int) /\ (↑y : Int) < (↑Y : Int)) then
 bif decide (0 + (↑y : Int).toNat * (6) + (6) <= Y * 6) then
 ∃ (n : Nat -> Int), ∃ (m : Nat), [I (setF (fun (_ : Nat) => (0 : Int)) 0 z1 (0 + 0)), I (setF (fun (_ : Nat) => (0 : Int)) 0 z1 (0 + 1)), I (setF (fun (_ : Nat) => (0 : Int)) 0 z1 (0 + 2)), I (setF (fun (_ : Nat) => (0 : Int)) 0 z1 (0 + 3)), I (setF (fun (_ : Nat) => (0 : Int)) 0 z1 (0 + 4)), I (setF (fun (_ : Nat) => (0 : Int)) 0 z1 (0 + 5))] = nL n /\ (↑l.length : Int) = (↑m : Int) /\ m <= 6 /\ bif y.beq y then
 bif roomB (y + 1) (24) then
 bif inK .i64 ((↑y : Int) + (1 : Int)) then
 X .normal [VV.sl 14 (y + 1), I ((↑y : Int) + (1 : Int)), I (↑Y : Int), VV.slice (.fa (7 + 0) 0 0) Y Y, I (↑0 : Int), I (↑3 : Int), VV.slice (.own 5 0) 3 3, VV.nils, I 0, VV.nils, VV.ptr (.own 1 0), VV.ptr (.own 0 0), VV.tl l.length 5 (stG l), VV.agg [VV.tl t.T.length 1 (dG t.T), I t.far, I t.least], VV.tl P.length 1 (pthG P)] [VB.vec (y + 1) (catG y g (oneL 1 [VV.tl m 1 (chG n)])) (1) 23, VB.cells [sFa 7 Y, sFa 8 Y, sFa 9 Y] 76, VB.fam [] (Y * 6) (M 0) 80, VB.fam [] (Y * 6) (M 1) 80, VB.fam [] (Y * 6) (M 2) 80]
 else False
 else False
 else False
 else False
 else False
 else X (.exit 5) [VV.sl 14 y, I (↑y : Int), I (↑Y : Int), VV.slice (.fa (7 + 0) 0 0) Y Y, I (↑0 : Int), I (↑3 : Int), VV.slice (.own 5 0) 3 3, VV.nils, I 0, VV.nils, VV.ptr (.own 1 0), VV.ptr (.own 0 0), VV.tl l.length 5 (stG l), VV.agg [VV.tl t.T.length 1 (dG t.T), I t.far, I t.least], VV.tl P.length 1 (pthG P)] [VB.vec y g 1 23, VB.cells [sFa 7 Y, sFa 8 Y, sFa 9 Y] 76, VB.fam [] (Y * 6) (M 0) 80, VB.fam [] (Y * 6) (M 1) 80, VB.fam [] (Y * 6) (M 2) 80])) := by kernel_rfl
theorem cp31_ev (l : List Stk) (t : Tst) (P : List (List Int)) (Y y : Nat) (M : Mde) (g gO : Nat -> List VV) (X : VEx -> List VV -> List VB -> Prop) : codeE Try.prog (callN Try.prog (tabS [listT]) noL 10 20) (fun _ => none) true 10 (ntOf Try.prog 17) 0 (loopB 5 (bodyOf Try.prog 17)) ((18 :: dsPl).zip (.sl 17 y :: VPl l t P Y 3 1 (.sl 16 1) y)) ⟨18, (17 :: (16 :: nsPl3)).zip (.vec y g 1 23 :: (.vec 1 gO 1 26 :: BPl3 Y M))⟩ (obs 18 (18 :: dsPl) (17 :: (16 :: nsPl3)) X) =
 (let z1 := [M 1 (0 + (↑y : Int).toNat * (6) + 0), M 1 (0 + (↑y : Int).toNat * (6) + 1), M 1 (0 + (↑y : Int).toNat * (6) + 2), M 1 (0 + (↑y : Int).toNat * (6) + 3), M 1 (0 + (↑y : Int).toNat * (6) + 4), M 1 (0 + (↑y : Int).toNat * (6) + 5)];
 (bif decide ((↑y : Int) < (↑Y : Int)) then
 bif decide ((0 : Int) <= (↑y : Int) /\ (↑y : Int) < (↑Y : Int)) then
 bif decide (0 + (↑y : Int).toNat * (6) + (6) <= Y * 6) then
 ∃ (n : Nat -> Int), ∃ (m : Nat), [I (setF (fun (_ : Nat) => (0 : Int)) 0 z1 (0 + 0)), I (setF (fun (_ : Nat) => (0 : Int)) 0 z1 (0 + 1)), I (setF (fun (_ : Nat) => (0 : Int)) 0 z1 (0 + 2)), I (setF (fun (_ : Nat) => (0 : Int)) 0 z1 (0 + 3)), I (setF (fun (_ : Nat) => (0 : Int)) 0 z1 (0 + 4)), I (setF (fun (_ : Nat) => (0 : Int)) 0 z1 (0 + 5))] = nL n /\ (↑l.length : Int) = (↑m : Int) /\ m <= 6 /\ bif y.beq y then
 bif roomB (y + 1) (24) then
 bif inK .i64 ((↑y : Int) + (1 : Int)) then
 X .normal [VV.sl 17 (y + 1), I ((↑y : Int) + (1 : Int)), I (↑Y : Int), VV.slice (.fa (7 + 1) 0 0) Y Y, I (↑1 : Int), I (↑3 : Int), VV.slice (.own 5 0) 3 3, VV.sl 16 1, I 0, VV.nils, VV.ptr (.own 1 0), VV.ptr (.own 0 0), VV.tl l.length 5 (stG l), VV.agg [VV.tl t.T.length 1 (dG t.T), I t.far, I t.least], VV.tl P.length 1 (pthG P)] [VB.vec (y + 1) (catG y g (oneL 1 [VV.tl m 1 (chG n)])) (1) 23, VB.vec 1 gO 1 26, VB.cells [sFa 7 Y, sFa 8 Y, sFa 9 Y] 76, VB.fam [] (Y * 6) (M 0) 80, VB.fam [] (Y * 6) (M 1) 80, VB.fam [] (Y * 6) (M 2) 80]
 else False
 else False
 else False
 else False
 else False
 else X (.exit 5) [VV.sl 17 y, I (↑y : Int), I (↑Y : Int), VV.slice (.fa (7 + 1) 0 0) Y Y, I (↑1 : Int), I (↑3 : Int), VV.slice (.own 5 0) 3 3, VV.sl 16 1, I 0, VV.nils, VV.ptr (.own 1 0), VV.ptr (.own 0 0), VV.tl l.length 5 (stG l), VV.agg [VV.tl t.T.length 1 (dG t.T), I t.far, I t.least], VV.tl P.length 1 (pthG P)] [VB.vec y g 1 23, VB.vec 1 gO 1 26, VB.cells [sFa 7 Y, sFa 8 Y, sFa 9 Y] 76, VB.fam [] (Y * 6) (M 0) 80, VB.fam [] (Y * 6) (M 1) 80, VB.fam [] (Y * 6) (M 2) 80])) := by kernel_rfl
theorem cp32_ev (l : List Stk) (t : Tst) (P : List (List Int)) (Y y : Nat) (M : Mde) (g gO : Nat -> List VV) (X : VEx -> List VV -> List VB -> Prop) : codeE Try.prog (callN Try.prog (tabS [listT]) noL 10 20) (fun _ => none) true 10 (ntOf Try.prog 17) 0 (loopB 5 (bodyOf Try.prog 17)) ((18 :: dsPl).zip (.sl 19 y :: VPl l t P Y 3 2 (.sl 16 2) y)) ⟨20, (19 :: (16 :: nsPl3)).zip (.vec y g 1 23 :: (.vec 2 gO 1 26 :: BPl3 Y M))⟩ (obs 20 (18 :: dsPl) (19 :: (16 :: nsPl3)) X) =
 (let z1 := [M 2 (0 + (↑y : Int).toNat * (6) + 0), M 2 (0 + (↑y : Int).toNat * (6) + 1), M 2 (0 + (↑y : Int).toNat * (6) + 2), M 2 (0 + (↑y : Int).toNat * (6) + 3), M 2 (0 + (↑y : Int).toNat * (6) + 4), M 2 (0 + (↑y : Int).toNat * (6) + 5)];
 (bif decide ((↑y : Int) < (↑Y : Int)) then
 bif decide ((0 : Int) <= (↑y : Int) /\ (↑y : Int) < (↑Y : Int)) then
 bif decide (0 + (↑y : Int).toNat * (6) + (6) <= Y * 6) then
 ∃ (n : Nat -> Int), ∃ (m : Nat), [I (setF (fun (_ : Nat) => (0 : Int)) 0 z1 (0 + 0)), I (setF (fun (_ : Nat) => (0 : Int)) 0 z1 (0 + 1)), I (setF (fun (_ : Nat) => (0 : Int)) 0 z1 (0 + 2)), I (setF (fun (_ : Nat) => (0 : Int)) 0 z1 (0 + 3)), I (setF (fun (_ : Nat) => (0 : Int)) 0 z1 (0 + 4)), I (setF (fun (_ : Nat) => (0 : Int)) 0 z1 (0 + 5))] = nL n /\ (↑l.length : Int) = (↑m : Int) /\ m <= 6 /\ bif y.beq y then
 bif roomB (y + 1) (24) then
 bif inK .i64 ((↑y : Int) + (1 : Int)) then
 X .normal [VV.sl 19 (y + 1), I ((↑y : Int) + (1 : Int)), I (↑Y : Int), VV.slice (.fa (7 + 2) 0 0) Y Y, I (↑2 : Int), I (↑3 : Int), VV.slice (.own 5 0) 3 3, VV.sl 16 2, I 0, VV.nils, VV.ptr (.own 1 0), VV.ptr (.own 0 0), VV.tl l.length 5 (stG l), VV.agg [VV.tl t.T.length 1 (dG t.T), I t.far, I t.least], VV.tl P.length 1 (pthG P)] [VB.vec (y + 1) (catG y g (oneL 1 [VV.tl m 1 (chG n)])) (1) 23, VB.vec 2 gO 1 26, VB.cells [sFa 7 Y, sFa 8 Y, sFa 9 Y] 76, VB.fam [] (Y * 6) (M 0) 80, VB.fam [] (Y * 6) (M 1) 80, VB.fam [] (Y * 6) (M 2) 80]
 else False
 else False
 else False
 else False
 else False
 else X (.exit 5) [VV.sl 19 y, I (↑y : Int), I (↑Y : Int), VV.slice (.fa (7 + 2) 0 0) Y Y, I (↑2 : Int), I (↑3 : Int), VV.slice (.own 5 0) 3 3, VV.sl 16 2, I 0, VV.nils, VV.ptr (.own 1 0), VV.ptr (.own 0 0), VV.tl l.length 5 (stG l), VV.agg [VV.tl t.T.length 1 (dG t.T), I t.far, I t.least], VV.tl P.length 1 (pthG P)] [VB.vec y g 1 23, VB.vec 2 gO 1 26, VB.cells [sFa 7 Y, sFa 8 Y, sFa 9 Y] 76, VB.fam [] (Y * 6) (M 0) 80, VB.fam [] (Y * 6) (M 1) 80, VB.fam [] (Y * 6) (M 2) 80])) := by kernel_rfl
def hpn3_1 (D0 : List Int) (D1 : List Int) (D2 : List Int) (t : Tst) : VH := VH.mk (2) [(1, VB.cells [VV.tl [D0, D1, D2].length 1 (pthG [D0, D1, D2])] 26), (0, VB.cells [VV.tl t.T.length 1 (dG t.T), I t.far, I t.least] 25)]
def hpn3_2 (D0 : List Int) (D1 : List Int) (D2 : List Int) (l : List Stk) (t : Tst) : VH := let z1 := (↑([D0, D1, D2].getD (Int.toNat (0 : Int)) []).length : Int); VH.mk (14) ((12, VB.cells [VV.func 44 [] [VV.ptr (.own (4) 0), VV.ptr (.own (11) 0), VV.ptr (.own (1) 0), VV.ptr (.own (13) 0)]] 78) :: (13, VB.cells [VV.func 40 [] [VV.ptr (.own (3) 0), VV.ptr (.own (12) 0), VV.ptr (.own (1) 0), VV.ptr (.own (6) 0)]] 88) :: (13, VB.cells [VV.nilf] 88) :: (12, VB.cells [VV.nilf] 78) :: (11, VB.cells [VV.mp (10)] 77) :: (11, VB.cells [VV.opq (Value.map none)] 77) :: (10, VB.map ([PK.int IntKind.i64] ++ ([PK.int IntKind.i64] ++ ((List.replicate 6 [PK.int IntKind.i64]).flatten ++ []))) PK.bool []) :: (5, VB.cells [VV.slice (.fa (7) 0 0) z1.toNat z1.toNat, VV.slice (.fa (8) 0 0) z1.toNat z1.toNat, VV.slice (.fa (9) 0 0) z1.toNat z1.toNat] 76) :: ([(9, VB.fam [] (z1.toNat * (6)) (fun (_ : Nat) => (0 : Int)) 80)] ++ (5, VB.cells [VV.slice (.fa (7) 0 0) z1.toNat z1.toNat, VV.slice (.fa (8) 0 0) z1.toNat z1.toNat, VV.nils] 76) :: ([(8, VB.fam [] (z1.toNat * (6)) (fun (_ : Nat) => (0 : Int)) 80)] ++ (5, VB.cells [VV.slice (.fa (7) 0 0) z1.toNat z1.toNat, VV.nils, VV.nils] 76) :: ([(7, VB.fam [] (z1.toNat * (6)) (fun (_ : Nat) => (0 : Int)) 80)] ++ [(6, VB.cells [VV.slice (.own (5) 0) (3) (3)] 75), (6, VB.cells [VV.nils] 75), (5, VB.cells [VV.nils, VV.nils, VV.nils] 76), (4, VB.cells [I z1] 3), (4, VB.cells [I 0] 3), (3, VB.cells [VV.ptr (.own (2) 0)] 72), (3, VB.cells [VV.nilp] 72), (2, VB.cells (stD l :: tsL t) 74), (1, VB.cells [VV.tl [D0, D1, D2].length 1 (pthG [D0, D1, D2])] 26), (0, VB.cells [VV.tl t.T.length 1 (dG t.T), I t.far, I t.least] 25)]))))
def hpn3_3 (D0 : List Int) (D1 : List Int) (D2 : List Int) (l : List Stk) (s : St) (t : Tst) : VH := let z1 := (↑([D0, D1, D2].getD (Int.toNat (0 : Int)) []).length : Int); VH.mk (14) [(7, VB.fam [] (D0.length * 6) (s.M 0) 80), (8, VB.fam [] (D0.length * 6) (s.M 1) 80), (9, VB.fam [] (D0.length * 6) (s.M 2) 80), (10, VB.map kS PK.bool s.es), (12, VB.cells [VV.func 44 [] [VV.ptr (.own (4) 0), VV.ptr (.own (11) 0), VV.ptr (.own (1) 0), VV.ptr (.own (13) 0)]] 78), (13, VB.cells [VV.func 40 [] [VV.ptr (.own (3) 0), VV.ptr (.own (12) 0), VV.ptr (.own (1) 0), VV.ptr (.own (6) 0)]] 88), (13, VB.cells [VV.nilf] 88), (12, VB.cells [VV.nilf] 78), (11, VB.cells [VV.mp (10)] 77), (11, VB.cells [VV.opq (Value.map none)] 77), (10, VB.map kS PK.bool []), (5, VB.cells [VV.slice (.fa (7) 0 0) z1.toNat z1.toNat, VV.slice (.fa (8) 0 0) z1.toNat z1.toNat, VV.slice (.fa (9) 0 0) z1.toNat z1.toNat] 76), (9, VB.fam [] (z1.toNat * (6)) (fun (_ : Nat) => (0 : Int)) 80), (5, VB.cells [VV.slice (.fa (7) 0 0) z1.toNat z1.toNat, VV.slice (.fa (8) 0 0) z1.toNat z1.toNat, VV.nils] 76), (8, VB.fam [] (z1.toNat * (6)) (fun (_ : Nat) => (0 : Int)) 80), (5, VB.cells [VV.slice (.fa (7) 0 0) z1.toNat z1.toNat, VV.nils, VV.nils] 76), (7, VB.fam [] (z1.toNat * (6)) (fun (_ : Nat) => (0 : Int)) 80), (6, VB.cells [VV.slice (.own (5) 0) (3) (3)] 75), (6, VB.cells [VV.nils] 75), (5, VB.cells [VV.nils, VV.nils, VV.nils] 76), (4, VB.cells [I z1] 3), (4, VB.cells [I 0] 3), (3, VB.cells [VV.ptr (.own (2) 0)] 72), (3, VB.cells [VV.nilp] 72), (2, VB.cells (stD l :: tsL t) 74), (1, VB.cells [VV.tl [D0, D1, D2].length 1 (pthG [D0, D1, D2])] 26), (0, VB.cells [VV.tl t.T.length 1 (dG t.T), I t.far, I t.least] 25)]
def hpn3_4 (D0 : List Int) (D1 : List Int) (D2 : List Int) (l : List Stk) (s : St) (t : Tst) : VH := let z1 := (↑([D0, D1, D2].getD (Int.toNat (0 : Int)) []).length : Int); VH.mk (14) ((7, VB.fam [] (D0.length * 6) (s.M 0) 80) :: (8, VB.fam [] (D0.length * 6) (s.M 1) 80) :: (9, VB.fam [] (D0.length * 6) (s.M 2) 80) :: (10, VB.map kS PK.bool s.es) :: (12, VB.cells [VV.func 44 [] [VV.ptr (.own (4) 0), VV.ptr (.own (11) 0), VV.ptr (.own (1) 0), VV.ptr (.own (13) 0)]] 78) :: (13, VB.cells [VV.func 40 [] [VV.ptr (.own (3) 0), VV.ptr (.own (12) 0), VV.ptr (.own (1) 0), VV.ptr (.own (6) 0)]] 88) :: (13, VB.cells [VV.nilf] 88) :: (12, VB.cells [VV.nilf] 78) :: (11, VB.cells [VV.mp (10)] 77) :: (11, VB.cells [VV.opq (Value.map none)] 77) :: (10, VB.map ([PK.int IntKind.i64] ++ ([PK.int IntKind.i64] ++ ((List.replicate 6 [PK.int IntKind.i64]).flatten ++ []))) PK.bool []) :: (5, VB.cells [VV.slice (.fa (7) 0 0) z1.toNat z1.toNat, VV.slice (.fa (8) 0 0) z1.toNat z1.toNat, VV.slice (.fa (9) 0 0) z1.toNat z1.toNat] 76) :: ([(9, VB.fam [] (z1.toNat * (6)) (fun (_ : Nat) => (0 : Int)) 80)] ++ (5, VB.cells [VV.slice (.fa (7) 0 0) z1.toNat z1.toNat, VV.slice (.fa (8) 0 0) z1.toNat z1.toNat, VV.nils] 76) :: ([(8, VB.fam [] (z1.toNat * (6)) (fun (_ : Nat) => (0 : Int)) 80)] ++ (5, VB.cells [VV.slice (.fa (7) 0 0) z1.toNat z1.toNat, VV.nils, VV.nils] 76) :: ([(7, VB.fam [] (z1.toNat * (6)) (fun (_ : Nat) => (0 : Int)) 80)] ++ [(6, VB.cells [VV.slice (.own (5) 0) (3) (3)] 75), (6, VB.cells [VV.nils] 75), (5, VB.cells [VV.nils, VV.nils, VV.nils] 76), (4, VB.cells [I z1] 3), (4, VB.cells [I 0] 3), (3, VB.cells [VV.ptr (.own (2) 0)] 72), (3, VB.cells [VV.nilp] 72), (2, VB.cells (stD l :: tsL t) 74), (1, VB.cells [VV.tl [D0, D1, D2].length 1 (pthG [D0, D1, D2])] 26), (0, VB.cells [VV.tl t.T.length 1 (dG t.T), I t.far, I t.least] 25)]))))
def hpn3_5 (D0 : List Int) (M : Mde) (l : List Stk) : VH := VH.mk (17) ((16, VB.vec 1 ((oneL 1 [VV.tl D0.length 1 (rowG l.length M 0)])) (1) 26) :: (15, VB.vec 1 ((oneL 1 [VV.tl D0.length 1 (rowG l.length M 0)])) (1) 26) :: (14, VB.gone) :: (14 :: nsPl3).zip (VB.vec D0.length (rowG l.length M 0) 1 23 :: BPl3 D0.length M))
theorem pq3_ev (l : List Stk) (t : Tst) (D0 D1 D2 : List Int) (Q : VRes -> VH -> Prop) : callN Try.prog (tabS [asR l t, casksR l t, apR [D0, D1, D2], findR3 l t [D0, D1, D2] D0.length D0.length, listT]) (atF 17 [(5, lCp3 l t [D0, D1, D2] D0.length)]) 10 20 0 (.fn 17) [stD l, .agg (tsL t), pthD [D0, D1, D2]] ⟨0, []⟩ (fun r h => Q r h) =
 (let z1 := (↑([D0, D1, D2].getD (Int.toNat (0 : Int)) []).length : Int);
 (isD (hpn3_1 D0 D1 D2 t) 2 (VV.tl l.length 5 (stG l)) (stD l) /\ isD (hpn3_1 D0 D1 D2 t) 2 (VV.agg [VV.tl t.T.length 1 (dG t.T), I t.far, I t.least]) (VV.agg (tsL t)) /\ bif !okAll l t then
 Q (.ret (.tup [VV.nils, I 1])) (hpn3_1 D0 D1 D2 t)
 else isD (hpn3_1 D0 D1 D2 t) 4 (VV.tl [D0, D1, D2].length 1 (pthG [D0, D1, D2])) (pthD [D0, D1, D2]) /\ pthB [D0, D1, D2] /\ bif !okPaths [D0, D1, D2] then
 Q (.ret (.tup [VV.nils, I 2])) (hpn3_1 D0 D1 D2 t)
 else bif decide ((0 : Int) <= z1 /\ z1 = z1) then
 bif roomB z1.toNat (48) then
 bif decide ((0 : Int) <= z1 /\ z1 = z1) then
 bif roomB z1.toNat (48) then
 bif decide ((0 : Int) <= z1 /\ z1 = z1) then
 bif roomB z1.toNat (48) then
 isD (maskH [0, 1, 2, 3, 4, 5, 6, 7, 8, 9, 10, 11, 12, 13] (hpn3_2 D0 D1 D2 l t)) 4 (VV.ptr (.own (2) 0)) (VV.tp (stD l :: tsL t)) /\ l.length <= 6 /\ ∃ (S' : Nat), ∃ (a : Nat -> Int), ∃ (M : Mde), ∃ (es : Lst), (VV.ptr (.own 4 0) = VV.ptr (.own 4 0) /\ VV.ptr (.own 11 0) = VV.ptr (.own 11 0) /\ VV.ptr (.own 1 0) = VV.ptr (.own 1 0) /\ VV.ptr (.own 13 0) = VV.ptr (.own 13 0)) /\ (0 = 0 /\ 14 <= 14) /\ atL nsB3 (BP3 l t [D0, D1, D2] D0.length M es) (hpn3_2 D0 D1 D2 l t) /\ ((0 : Int) = (↑D0.length : Int) - (↑D0.length : Int) /\ (1 : Int) * (2 : Int) ^ min (↑[D0, D1, D2].length : Int).toNat IntKind.i64.bits - (1 : Int) = (↑S' : Int) /\ [I (mostF l 0), I (mostF l 1), I (mostF l 2), I (mostF l 3), I (mostF l 4), I (mostF l 5)] = nL a) /\ PreF l t [D0, D1, D2] D0.length D0.length S' a es /\ ∀ (b : Bool) (s : St), PostF l t [D0, D1, D2] D0.length D0.length S' a M b s -> bif !b then
 Q (.ret (.tup [VV.nils, I 4])) (hpn3_3 D0 D1 D2 l s t)
 else ∃ (M : Mde), FitP 0 (hpn3_4 D0 D1 D2 l s t) [(73, I 0), (72, I (↑z1.toNat : Int)), (71, VV.slice (.fa (7) 0 0) z1.toNat z1.toNat), (18, VV.nils), (17, VV.slice (.fa (7) 0 0) z1.toNat z1.toNat), (70, VV.slice (.fa (7) 0 0) z1.toNat z1.toNat), (69, VV.ptr (.own (5) 0)), (68, VV.bool true), (68, VV.bool (decide ((0 : Int) < (↑(3) : Int)))), (67, I 0), (66, I (↑(3) : Int)), (65, VV.slice (.own (5) 0) (3) (3)), (15, VV.nils), (64, VV.bool false), (64, VV.bool !b), (63, VV.bool b), (62, VV.agg [I 0, I ((1 : Int) * (2 : Int) ^ min (↑[D0, D1, D2].length : Int).toNat IntKind.i64.bits - (1 : Int)), I (mostF l 0), I (mostF l 1), I (mostF l 2), I (mostF l 3), I (mostF l 4), I (mostF l 5)]), (61, VV.agg (nL (mostF l))), (60, VV.ptr (.own (2) 0)), (59, I ((1 : Int) * (2 : Int) ^ min (↑[D0, D1, D2].length : Int).toNat IntKind.i64.bits - (1 : Int))), (58, I ((1 : Int) * (2 : Int) ^ min (↑[D0, D1, D2].length : Int).toNat IntKind.i64.bits)), (57, I (↑[D0, D1, D2].length : Int)), (56, VV.tl [D0, D1, D2].length 1 (pthG [D0, D1, D2])), (55, VV.func 44 [] [VV.ptr (.own (4) 0), VV.ptr (.own (11) 0), VV.ptr (.own (1) 0), VV.ptr (.own (13) 0)]), (54, VV.func 44 [] [VV.ptr (.own (4) 0), VV.ptr (.own (11) 0), VV.ptr (.own (1) 0), VV.ptr (.own (13) 0)]), (14, VV.ptr (.own (13) 0)), (53, VV.func 40 [] [VV.ptr (.own (3) 0), VV.ptr (.own (12) 0), VV.ptr (.own (1) 0), VV.ptr (.own (6) 0)]), (13, VV.ptr (.own (12) 0)), (12, VV.ptr (.own (11) 0)), (52, VV.mp (10)), (44, VV.bool false), (44, VV.bool (decide ((0 : Int) + (1 : Int) + (1 : Int) + (1 : Int) < (↑(3) : Int)))), (43, I ((0 : Int) + (1 : Int) + (1 : Int) + (1 : Int))), (51, I ((0 : Int) + (1 : Int) + (1 : Int) + (1 : Int))), (50, VV.ptr (.own (5) (2))), (49, VV.slice (.fa (9) 0 0) z1.toNat z1.toNat), (48, I z1), (47, I ((0 : Int) + (1 : Int) + (1 : Int))), (46, VV.slice (.own (5) 0) (3) (3)), (11, I ((0 : Int) + (1 : Int) + (1 : Int))), (45, I ((0 : Int) + (1 : Int) + (1 : Int))), (44, VV.bool true), (44, VV.bool (decide ((0 : Int) + (1 : Int) + (1 : Int) < (↑(3) : Int)))), (43, I ((0 : Int) + (1 : Int) + (1 : Int))), (51, I ((0 : Int) + (1 : Int) + (1 : Int))), (50, VV.ptr (.own (5) (1))), (49, VV.slice (.fa (8) 0 0) z1.toNat z1.toNat), (48, I z1), (47, I ((0 : Int) + (1 : Int))), (46, VV.slice (.own (5) 0) (3) (3)), (11, I ((0 : Int) + (1 : Int))), (45, I ((0 : Int) + (1 : Int))), (44, VV.bool true), (44, VV.bool (decide ((0 : Int) + (1 : Int) < (↑(3) : Int)))), (43, I ((0 : Int) + (1 : Int))), (51, I ((0 : Int) + (1 : Int))), (50, VV.ptr (.own (5) 0)), (49, VV.slice (.fa (7) 0 0) z1.toNat z1.toNat), (48, I z1), (47, I 0), (46, VV.slice (.own (5) 0) (3) (3)), (11, I 0), (45, I 0), (44, VV.bool true), (44, VV.bool (decide ((0 : Int) < (↑(3) : Int)))), (43, I 0), (42, I (↑(3) : Int)), (41, VV.slice (.own (5) 0) (3) (3)), (10, VV.ptr (.own (6) 0)), (40, VV.slice (.own (5) 0) (3) (3)), (39, I (↑[D0, D1, D2].length : Int)), (38, VV.tl [D0, D1, D2].length 1 (pthG [D0, D1, D2])), (9, VV.ptr (.own (4) 0)), (37, I z1), (36, VV.tl ([D0, D1, D2].getD (Int.toNat (0 : Int)) []).length 1 (dG ([D0, D1, D2].getD (Int.toNat (0 : Int)) []))), (35, VV.tp [VV.tl ([D0, D1, D2].getD (Int.toNat (0 : Int)) []).length 1 (dG ([D0, D1, D2].getD (Int.toNat (0 : Int)) []))]), (34, VV.tl [D0, D1, D2].length 1 (pthG [D0, D1, D2])), (8, VV.ptr (.own (3) 0)), (33, VV.ptr (.own (2) 0)), (32, VV.agg (stD l :: tsL t)), (31, VV.agg [VV.tl t.T.length 1 (dG t.T), I t.far, I t.least]), (30, VV.tl l.length 5 (stG l)), (26, VV.bool false), (26, VV.bool !okPaths [D0, D1, D2]), (29, VV.bool !okPaths [D0, D1, D2]), (28, VV.bool (okPaths [D0, D1, D2])), (27, VV.tl [D0, D1, D2].length 1 (pthG [D0, D1, D2])), (21, VV.bool false), (21, VV.bool !okAll l t), (25, VV.bool !okAll l t), (24, VV.bool (okAll l t)), (23, VV.agg [VV.tl t.T.length 1 (dG t.T), I t.far, I t.least]), (22, VV.tl l.length 5 (stG l)), (7, I 0), (6, VV.nils), (5, VV.ptr (.own (1) 0)), (4, VV.ptr (.own 0 0)), (0, stD l), (1, VV.agg (tsL t)), (2, pthD [D0, D1, D2])] (VH.mk 14 (nsPl3.zip (BPl3 D0.length M))) ((18, VV.nils) :: dsPl.zip (VPl l t [D0, D1, D2] D0.length 3 0 VV.nils 0)) /\ ∃ (M_1 : Mde), ∃ (gO : Nat -> List VV), FitP 0 (hpn3_5 D0 M l) ((73, I 0) :: (72, I (↑D0.length : Int)) :: (71, VV.slice (.fa 8 0 0) D0.length D0.length) :: (18, VV.nils) :: (17, VV.slice (.fa 8 0 0) D0.length D0.length) :: (70, VV.slice (.fa 8 0 0) D0.length D0.length) :: (69, VV.ptr (.own 5 (1))) :: (68, VV.bool true) :: (68, VV.bool (decide ((↑0 : Int) + (1 : Int) < (↑3 : Int)))) :: (67, I ((↑0 : Int) + (1 : Int))) :: (89, I ((↑0 : Int) + (1 : Int))) :: (15, VV.sl (16) 1) :: (88, VV.sl (16) 1) :: (87, VV.sl (15) 1) :: (86, VV.tl D0.length 1 (rowG l.length M 0)) :: (85, VV.nils) :: (18, VV.tl D0.length 1 (rowG l.length M 0)) :: (18 :: dsPl).zip (VV.sl 14 D0.length :: VPl l t [D0, D1, D2] D0.length 3 0 VV.nils D0.length)) (VH.mk 17 ((16 :: nsPl3).zip (VB.vec 1 gO 1 26 :: BPl3 D0.length M_1))) ((18, VV.nils) :: dsPl.zip (VPl l t [D0, D1, D2] D0.length 3 1 (VV.sl 16 1) 0)) /\ ∃ (M : Mde), ∃ (gO_1 : Nat -> List VV), FitP 0 (VH.mk (19) ((16, VB.vec (1 + 1) (catG 1 gO (oneL 1 [VV.tl D0.length 1 (rowG l.length M_1 1)])) (1) 26) :: (18, VB.vec 1 ((oneL 1 [VV.tl D0.length 1 (rowG l.length M_1 1)])) (1) 26) :: (17, VB.gone) :: (17 :: 16 :: nsPl3).zip (VB.vec D0.length (rowG l.length M_1 1) 1 23 :: VB.vec 1 gO 1 26 :: BPl3 D0.length M_1))) ((73, I 0) :: (72, I (↑D0.length : Int)) :: (71, VV.slice (.fa 9 0 0) D0.length D0.length) :: (18, VV.nils) :: (17, VV.slice (.fa 9 0 0) D0.length D0.length) :: (70, VV.slice (.fa 9 0 0) D0.length D0.length) :: (69, VV.ptr (.own 5 (2))) :: (68, VV.bool true) :: (68, VV.bool (decide ((↑1 : Int) + (1 : Int) < (↑3 : Int)))) :: (67, I ((↑1 : Int) + (1 : Int))) :: (89, I ((↑1 : Int) + (1 : Int))) :: (15, VV.sl 16 (1 + 1)) :: (88, VV.sl 16 (1 + 1)) :: (87, VV.sl (18) 1) :: (86, VV.tl D0.length 1 (rowG l.length M_1 1)) :: (85, VV.sl 16 1) :: (18, VV.tl D0.length 1 (rowG l.length M_1 1)) :: (18 :: dsPl).zip (VV.sl 17 D0.length :: VPl l t [D0, D1, D2] D0.length 3 1 (VV.sl 16 1) D0.length)) (VH.mk 19 ((16 :: nsPl3).zip (VB.vec 2 gO_1 1 26 :: BPl3 D0.length M))) ((18, VV.nils) :: dsPl.zip (VPl l t [D0, D1, D2] D0.length 3 2 (VV.sl 16 2) 0)) /\ Q (.ret (.tup [VV.sl 16 (2 + 1), I 0])) (VH.mk (21) [(16, VB.vec (2 + 1) (catG 2 gO_1 (oneL 1 [VV.tl D0.length 1 (rowG l.length M 2)])) (1) 26), (20, VB.vec 1 ((oneL 1 [VV.tl D0.length 1 (rowG l.length M 2)])) (1) 26), (19, VB.gone), (19, VB.vec D0.length (rowG l.length M 2) 1 23), (16, VB.vec 2 gO_1 1 26), (5, VB.cells [VV.slice (.fa 7 0 0) D0.length D0.length, VV.slice (.fa 8 0 0) D0.length D0.length, VV.slice (.fa 9 0 0) D0.length D0.length] 76), (7, VB.fam [] (D0.length * 6) (M 0) 80), (8, VB.fam [] (D0.length * 6) (M 1) 80), (9, VB.fam [] (D0.length * 6) (M 2) 80)])
 else False
 else False
 else False
 else False
 else False
 else False)) := by kernel_rfl
section
variable {l : List Stk} {t : Tst} {P : List (List Int)} {Y : Nat}
theorem cpr30 {M : Mde} (hY : Y <= 4) (hl6 : l.length <= 6) : LSound Try.prog true (.block 5 (.loop (loopB 5 (bodyOf Try.prog 17)))) (ntOf Try.prog 17) (fun lock tt h K => FitP lock h tt ⟨14, nsPl3.zip (BPl3 Y M)⟩ ((18, .nils) :: dsPl.zip (VPl l t P Y 3 0 .nils 0)) /\ K .normal ((18, .tl Y 1 (rowG l.length M 0)) :: (18 :: dsPl).zip (.sl 14 Y :: VPl l t P Y 3 0 .nils Y)) ⟨15, (14, .gone) :: (14 :: nsPl3).zip (.vec Y (rowG l.length M 0) 1 23 :: (BPl3 Y M))⟩) := by
 refine copy_row (n := 14) (ns := nsPl3) (BL := (BPl3 Y M)) rfl ?_ rfl
 refine loop_row hmix (noL_good (tab1 listT_ok)) (un := 10) (ds := 18 :: dsPl) (ns := 14 :: nsPl3) (nx := 15) (fun y : Nat => .sl 14 y :: VPl l t P Y 3 0 .nils y) (fun y => .vec y (rowG l.length M 0) 1 23 :: (BPl3 Y M)) (fun y => y <= Y) (fun y => Y - y) (fun _ ex vs bs => ex = .exit 5 /\ bs = .vec Y (rowG l.length M 0) 1 23 :: (BPl3 Y M) /\ vs = .sl 14 Y :: VPl l t P Y 3 0 .nils Y) noL_ok ?_ ?_
 ·rintro y h0
  refine cast (cp30_ev l t P Y y M _ _).symm ?_
  refine cond_d (fun hy => cond_dk ⟨by omega, by omega⟩ (cond_dk (by omega) ⟨fun j => M 0 (y * 6 + j), l.length, g6_row, rfl, hl6, cond_k (Nat.beq_refl _) (cond_k (roomC y (by omega)) (cond_r (by omega) ⟨y + 1, by show y + 1 <= Y; omega, by dsimp only; omega, rfl, ⟨⟨rfl, rfl, rfl, fun j hj => cat_row hj⟩, fitBs_refl _⟩, fun _ _ _ h => h⟩))⟩)) (fun hy => ?_)
  obtain rfl : y = Y := by omega
  exact ⟨rfl, rfl, rfl⟩
 ·rintro lock tt h K ⟨hf, k1⟩
  refine ⟨0, hf, Nat.zero_le _, ?_⟩
  rintro ex vs bs ⟨rfl, rfl, rfl⟩
  exact k1
theorem cpr31 {M : Mde} {gO : Nat -> List VV} (hY : Y <= 4) (hl6 : l.length <= 6) : LSound Try.prog true (.block 5 (.loop (loopB 5 (bodyOf Try.prog 17)))) (ntOf Try.prog 17) (fun lock tt h K => FitP lock h tt ⟨17, (16 :: nsPl3).zip (.vec 1 gO 1 26 :: BPl3 Y M)⟩ ((18, .nils) :: dsPl.zip (VPl l t P Y 3 1 (.sl 16 1) 0)) /\ K .normal ((18, .tl Y 1 (rowG l.length M 1)) :: (18 :: dsPl).zip (.sl 17 Y :: VPl l t P Y 3 1 (.sl 16 1) Y)) ⟨18, (17, .gone) :: (17 :: (16 :: nsPl3)).zip (.vec Y (rowG l.length M 1) 1 23 :: (.vec 1 gO 1 26 :: BPl3 Y M))⟩) := by
 refine copy_row (n := 17) (ns := (16 :: nsPl3)) (BL := (.vec 1 gO 1 26 :: BPl3 Y M)) rfl ?_ rfl
 refine loop_row hmix (noL_good (tab1 listT_ok)) (un := 10) (ds := 18 :: dsPl) (ns := 17 :: (16 :: nsPl3)) (nx := 18) (fun y : Nat => .sl 17 y :: VPl l t P Y 3 1 (.sl 16 1) y) (fun y => .vec y (rowG l.length M 1) 1 23 :: (.vec 1 gO 1 26 :: BPl3 Y M)) (fun y => y <= Y) (fun y => Y - y) (fun _ ex vs bs => ex = .exit 5 /\ bs = .vec Y (rowG l.length M 1) 1 23 :: (.vec 1 gO 1 26 :: BPl3 Y M) /\ vs = .sl 17 Y :: VPl l t P Y 3 1 (.sl 16 1) Y) noL_ok ?_ ?_
 ·rintro y h0
  refine cast (cp31_ev l t P Y y M _ _ _).symm ?_
  refine cond_d (fun hy => cond_dk ⟨by omega, by omega⟩ (cond_dk (by omega) ⟨fun j => M 1 (y * 6 + j), l.length, g6_row, rfl, hl6, cond_k (Nat.beq_refl _) (cond_k (roomC y (by omega)) (cond_r (by omega) ⟨y + 1, by show y + 1 <= Y; omega, by dsimp only; omega, rfl, ⟨⟨rfl, rfl, rfl, fun j hj => cat_row hj⟩, fitBs_refl _⟩, fun _ _ _ h => h⟩))⟩)) (fun hy => ?_)
  obtain rfl : y = Y := by omega
  exact ⟨rfl, rfl, rfl⟩
 ·rintro lock tt h K ⟨hf, k1⟩
  refine ⟨0, hf, Nat.zero_le _, ?_⟩
  rintro ex vs bs ⟨rfl, rfl, rfl⟩
  exact k1
theorem cpr32 {M : Mde} {gO : Nat -> List VV} (hY : Y <= 4) (hl6 : l.length <= 6) : LSound Try.prog true (.block 5 (.loop (loopB 5 (bodyOf Try.prog 17)))) (ntOf Try.prog 17) (fun lock tt h K => FitP lock h tt ⟨19, (16 :: nsPl3).zip (.vec 2 gO 1 26 :: BPl3 Y M)⟩ ((18, .nils) :: dsPl.zip (VPl l t P Y 3 2 (.sl 16 2) 0)) /\ K .normal ((18, .tl Y 1 (rowG l.length M 2)) :: (18 :: dsPl).zip (.sl 19 Y :: VPl l t P Y 3 2 (.sl 16 2) Y)) ⟨20, (19, .gone) :: (19 :: (16 :: nsPl3)).zip (.vec Y (rowG l.length M 2) 1 23 :: (.vec 2 gO 1 26 :: BPl3 Y M))⟩) := by
 refine copy_row (n := 19) (ns := (16 :: nsPl3)) (BL := (.vec 2 gO 1 26 :: BPl3 Y M)) rfl ?_ rfl
 refine loop_row hmix (noL_good (tab1 listT_ok)) (un := 10) (ds := 18 :: dsPl) (ns := 19 :: (16 :: nsPl3)) (nx := 20) (fun y : Nat => .sl 19 y :: VPl l t P Y 3 2 (.sl 16 2) y) (fun y => .vec y (rowG l.length M 2) 1 23 :: (.vec 2 gO 1 26 :: BPl3 Y M)) (fun y => y <= Y) (fun y => Y - y) (fun _ ex vs bs => ex = .exit 5 /\ bs = .vec Y (rowG l.length M 2) 1 23 :: (.vec 2 gO 1 26 :: BPl3 Y M) /\ vs = .sl 19 Y :: VPl l t P Y 3 2 (.sl 16 2) Y) noL_ok ?_ ?_
 ·rintro y h0
  refine cast (cp32_ev l t P Y y M _ _ _).symm ?_
  refine cond_d (fun hy => cond_dk ⟨by omega, by omega⟩ (cond_dk (by omega) ⟨fun j => M 2 (y * 6 + j), l.length, g6_row, rfl, hl6, cond_k (Nat.beq_refl _) (cond_k (roomC y (by omega)) (cond_r (by omega) ⟨y + 1, by show y + 1 <= Y; omega, by dsimp only; omega, rfl, ⟨⟨rfl, rfl, rfl, fun j hj => cat_row hj⟩, fitBs_refl _⟩, fun _ _ _ h => h⟩))⟩)) (fun hy => ?_)
  obtain rfl : y = Y := by omega
  exact ⟨rfl, rfl, rfl⟩
 ·rintro lock tt h K ⟨hf, k1⟩
  refine ⟨0, hf, Nat.zero_le _, ?_⟩
  rintro ex vs bs ⟨rfl, rfl, rfl⟩
  exact k1
theorem lCp3_ok (hY : Y <= 4) (hl6 : l.length <= 6) : LSound Try.prog true (.block 5 (.loop (loopB 5 (bodyOf Try.prog 17)))) (ntOf Try.prog 17) (lCp3 l t P Y) := by
 intro lock tt h K hK
 unfold lCp3 at hK
 split at hK
 ·obtain ⟨M, hf, k1⟩ := hK
  exact cpr30 hY hl6 lock tt h K ⟨hf, k1⟩
 ·obtain ⟨M, gO, hf, k1⟩ := hK
  exact cpr31 hY hl6 lock tt h K ⟨hf, k1⟩
 ·obtain ⟨M, gO, hf, k1⟩ := hK
  exact cpr32 hY hl6 lock tt h K ⟨hf, k1⟩
 ·exact hK.elim
end
theorem plp3 {l : List Stk} {t : Tst} {D0 D1 D2 : List Int} (h1 : okAll l t = true) (h2 : okPaths [D0, D1, D2] = true) (cf : Cfg l t [D0, D1, D2] D0.length) (hpb : pthB [D0, D1, D2]) : ∃ r h', CallsV Try.prog 17 [stD l, .agg (tsL t), pthD [D0, D1, D2]] ⟨0, []⟩ r h' /\ PlnK l t [D0, D1, D2] D0.length r h' := by
 have hl6 := cf.hl.1
 have hY := cf.Y4
 have hrm : roomB ((([D0, D1, D2].getD (Int.toNat 0) []).length : Int)).toNat 48 = true := roomY _ hY
 have htab : ∀ f T, tabS [asR l t, casksR l t, apR [D0, D1, D2], findR3 l t [D0, D1, D2] D0.length D0.length, listT] f = some T -> SpOk Try.prog f T := tab_ok _ (fun x hx => by
  simp only [List.mem_cons, List.not_mem_nil, or_false] at hx
  rcases hx with rfl | rfl | rfl | rfl | rfl
  ·exact asR_ok l t
  ·exact casksR_ok l t
  ·exact apR_ok _
  ·exact findR3_ok cf D0.length
  ·exact listT_ok)
 have hall : LoopsOk Try.prog 17 [(5, lCp3 l t [D0, D1, D2] D0.length)] := fun x hx => by
  simp only [List.mem_singleton] at hx
  subst hx
  exact ⟨by kernel_rfl, lCp3_ok hY hl6⟩
 obtain ⟨r, h', hk, hc⟩ := of_callN (callL_good hmix htab hall (un := 10) 20) (f := 17) (args := [stD l, .agg (tsL t), pthD [D0, D1, D2]]) (h := ⟨0, []⟩) (K := PlnK l t [D0, D1, D2] D0.length) (by
  refine cast (pq3_ev l t D0 D1 D2 _).symm ⟨isD_l, ⟨⟨rfl, rfl, fun _ _ => rfl⟩, ⟨rfl, rfl⟩, ⟨rfl, rfl⟩, trivial⟩, cond_i (fun h => by rw [h1] at h; cases h) (fun _ => ⟨⟨rfl, rfl, fun _ _ => rfl⟩, hpb, cond_i (fun h => by rw [h2] at h; cases h) (fun _ => ?_)⟩)⟩
  refine cond_dk ⟨by omega, rfl⟩ (cond_k hrm (cond_dk ⟨by omega, rfl⟩ (cond_k hrm (cond_dk ⟨by omega, rfl⟩ (cond_k hrm (⟨hc63 rfl, hl6, 7, mostF l, fun _ _ => 0, [], ⟨rfl, rfl, rfl, rfl⟩, ⟨rfl, Nat.le_refl _⟩, ⟨rfl, rfl, rfl, rfl, rfl, rfl, rfl, rfl, rfl, rfl, rfl, rfl, rfl, rfl, trivial⟩, ⟨by omega, rfl, rfl⟩, ⟨Nat.le_refl _, (by show 7 < 2 ^ 3; decide), most_left cf.hl, lost_nil⟩, ?_⟩))))))
  rintro b s ⟨p1, p2, p3, p4⟩
  refine cond_i (fun g => ?_) (fun g => ?_)
  ·have g : b = false := by simpa using g
   subst g
   refine .inl ⟨?_, rfl⟩
   cases hx : planF l t [D0, D1, D2] D0.length D0.length 7 (mostF l) with
   | none => exact hx
   | some x => rw [hx] at p1; cases p1
  ·have g : b = true := by simpa using g
   subst g
   obtain ⟨x, hx⟩ : ∃ x, planF l t [D0, D1, D2] D0.length D0.length 7 (mostF l) = some x := by
    cases hx : planF l t [D0, D1, D2] D0.length D0.length 7 (mostF l) with
    | none => rw [hx] at p1; cases p1
    | some x => exact ⟨x, rfl⟩
   refine ⟨s.M, ⟨⟨rfl, rfl, rfl, ⟨rfl, rfl, rfl, fun _ _ => rfl⟩, ⟨rfl, rfl, rfl, fun _ _ => rfl⟩, ⟨rfl, rfl, rfl, fun _ _ => rfl⟩, trivial⟩, rfl, rfl, rfl, rfl, rfl, rfl, rfl, rfl, rfl, rfl, rfl, rfl, rfl, rfl, rfl, trivial⟩, s.M, _, ⟨⟨rfl, rfl, VB.fit_refl _, VB.fit_refl _, VB.fit_refl _, VB.fit_refl _, VB.fit_refl _, trivial⟩, rfl, rfl, rfl, rfl, rfl, rfl, rfl, rfl, rfl, rfl, rfl, rfl, rfl, rfl, rfl, trivial⟩, s.M, _, ⟨⟨rfl, rfl, VB.fit_refl _, VB.fit_refl _, VB.fit_refl _, VB.fit_refl _, VB.fit_refl _, trivial⟩, rfl, rfl, rfl, rfl, rfl, rfl, rfl, rfl, rfl, rfl, rfl, rfl, rfl, rfl, rfl, trivial⟩, .inr ⟨x, 16, _, _, hx, rfl, rfl, fun i hi => ?_⟩⟩
   have hi : i < 3 := hi
   match i, hi with
   | 0, _ => exact tl_weak rfl (fun y hy => wk_ch (fun j hj => p4 x hx 0 y j (by omega) rfl (by omega) hy))
   | 1, _ => exact tl_weak rfl (fun y hy => wk_ch (fun j hj => p4 x hx 1 y j (by omega) rfl (by omega) hy))
   | 2, _ => exact tl_weak rfl (fun y hy => wk_ch (fun j hj => p4 x hx 2 y j (by omega) rfl (by omega) hy))
   | _ + 3, hi => exact absurd hi (by omega))
 exact ⟨r, h', hc, hk⟩
def BP4 (l : List Stk) (t : Tst) (P : List (List Int)) (Y : Nat) (M : Mde) (es : Lst) : List VB := [.cells (tsL t) 25, .cells [pthD P] 26, .cells (stD l :: tsL t) 74, .cells [.ptr (.own 2 0)] 72, .cells [I Y] 3, .cells [sFa 7 Y, sFa 8 Y, sFa 9 Y, sFa 10 Y] 76, .cells [.slice (.own 5 0) 4 4] 75, .fam [] (Y * 6) (M 0) 80, .fam [] (Y * 6) (M 1) 80, .fam [] (Y * 6) (M 2) 80, .fam [] (Y * 6) (M 3) 80,
 .map kS .bool es, .cells [.mp 11] 77, .cells [.func 44 [] [.ptr (.own 4 0), .ptr (.own 12 0), .ptr (.own 1 0), .ptr (.own 14 0)]] 78, .cells [.func 40 [] [.ptr (.own 3 0), .ptr (.own 13 0), .ptr (.own 1 0), .ptr (.own 6 0)]] 88]
def nsB4 : List Nat := [0, 1, 2, 3, 4, 5, 6, 7, 8, 9, 10, 11, 12, 13, 14]
def findR4 (l : List Stk) (t : Tst) (P : List (List Int)) (Y k : Nat) : FuncId × Spec1 := (44, fun lock args h K => match args, h with
 | [.agg (.int .i64 y :: .int .i64 S :: ns), x1, x2, x3, x4], ⟨nx, bs⟩ => ∃ (S' : Nat) (a : Nat -> Int) (M : Mde) (es : Lst), (x1 = .ptr (.own 4 0) /\ x2 = .ptr (.own 12 0) /\ x3 = .ptr (.own 1 0) /\ x4 = .ptr (.own 14 0)) /\ (lock = 0 /\ 15 <= nx) /\ atL nsB4 (BP4 l t P Y M es) ⟨nx, bs⟩ /\ (y = (Y : Int) - k /\ S = S' /\ ns = nL a) /\ PreF l t P Y k S' a es /\
   ∀ (b : Bool) (s : St), PostF l t P Y k S' a M b s -> K (.ret (.bool b)) ⟨nx, (7, .fam [] (Y * 6) (s.M 0) 80) :: (8, .fam [] (Y * 6) (s.M 1) 80) :: (9, .fam [] (Y * 6) (s.M 2) 80) :: (10, .fam [] (Y * 6) (s.M 3) 80) :: (11, .map kS .bool s.es) :: bs⟩
 | _, _ => False)
def folR4 (l : List Stk) (t : Tst) (P : List (List Int)) (Y k : Nat) : FuncId × Spec1 := (40, fun lock args h K => match args, h with
 | [.agg (.int .i64 y :: .int .i64 S :: ns), .int .i64 o, .int .i64 d, x1, x2, x3, x4], ⟨nx, bs⟩ => ∃ (S' O : Nat) (a : Nat -> Int) (M : Mde) (es : Lst), (x1 = .ptr (.own 3 0) /\ x2 = .ptr (.own 13 0) /\ x3 = .ptr (.own 1 0) /\ x4 = .ptr (.own 6 0)) /\ (lock = 0 /\ 15 <= nx) /\ atL nsB4 (BP4 l t P Y M es) ⟨nx, bs⟩ /\ (y = (Y : Int) - (k + 1 : Nat) /\ S = S' /\ o = O /\ ns = nL a) /\ PreW l t P Y k O a es /\
   ∀ (b : Bool) (s : St), PostW l t P Y k O d a M b s -> K (.ret (.bool b)) ⟨nx, (7, .fam [] (Y * 6) (s.M 0) 80) :: (8, .fam [] (Y * 6) (s.M 1) 80) :: (9, .fam [] (Y * 6) (s.M 2) 80) :: (10, .fam [] (Y * 6) (s.M 3) 80) :: (11, .map kS .bool s.es) :: bs⟩
 | _, _ => False)
def slFo4 (y S own need : Int) (a : Nat -> Int) : Slots := [(16, VV.func 74 [] [.ptr (.own 19 0), .ptr (.own 20 0)]), (15, VV.agg (nL a)), (14, VV.ptr (VA.own 15 2)), (13, .ptr (.own 2 0)), (10, .ptr (.own 18 0)), (9, .ptr (.own 17 0)), (8, .ptr (.own 16 0)), (7, .ptr (.own 15 0)), (0, VV.agg (I y :: I S :: nL a)), (1, I own), (2, I need), (3, .ptr (.own 3 0)), (4, .ptr (.own 13 0)), (5, .ptr (.own 1 0)), (6, .ptr (.own 6 0))]
def VFo4 : List VV := [.ptr (.own 22 0), .yld 21, .ptr (.own 19 0), .ptr (.own 20 0)]
def VFi4 (i : Int) : List VV := I i :: VFo4
def nsFo4 : List Nat := [0, 1, 2, 3, 4, 5, 6, 7, 8, 9, 10, 11, 12, 13, 14, 15, 16, 17, 18, 19, 20, 21, 22]
noncomputable def BFo4 (l : List Stk) (t : Tst) (P : List (List Int)) (Y : Nat) (y S own need : Int) (a : Nat -> Int) (M : Mde) (es : Lst) (n : Nat -> Int) : List VB := BP4 l t P Y M es ++ [faS y S a, .cells [I own] 3, .cells [I need] 3, .cells [.bool false] 4, .cells [.ptr (.own 2 0)] 72, faN a, .loop true none (slFo4 y S own need a) 58 [17] asFo bdFo, .fam [] 6 n 80]
theorem ino4_ev (l : List Stk) (t : Tst) (P : List (List Int)) (Y : Nat) (y S own need i : Int) (a : Nat -> Int) (M : Mde) (es : Lst) (n : Nat -> Int) (X : VEx -> List VV -> List VB -> Prop) : codeE Try.prog (callN Try.prog noSpec noL 10 20) (fun _ => none) true 10 (ntOf Try.prog 74) 0 (loopB 2 (bodyOf Try.prog 74)) (dsI.zip (VFi4 i)) ⟨24, nsFo4.zip (BFo4 l t P Y y S own need a M es n)⟩ (obs 24 dsI nsFo4 X) =
 (bif decide (i ≥ (0 : Int)) then
 bif decide ((0 : Int) <= i /\ i < (↑6 : Int)) then
 bif decide (i.toNat * (1) < 6) then
 bif decide ((0 : Int) <= i /\ i < (↑6 : Int)) then
 bif decide (i.toNat * (1) < 6) then
 bif decide (n (i.toNat * (1)) = (fun (k : Nat) => (ch a).getD k (0 : Int)) (i.toNat * (1))) then
 bif decide ((0 : Int) <= i /\ i < (↑6 : Int)) then
 bif decide (i.toNat * (1) + (1) <= 6) then
 bif inK .i64 (i - (1 : Int)) then
 X .normal [I (i - (1 : Int)), VV.ptr (.own 22 0), VV.yld 21, VV.ptr (.own 19 0), VV.ptr (.own 20 0)] (BFo4 l t P Y y S own need a M es (setF n (i.toNat * (1)) [(0 : Int)]))
 else False
 else False
 else False
 else X (.exit 2) [I i, VV.ptr (.own 22 0), VV.yld 21, VV.ptr (.own 19 0), VV.ptr (.own 20 0)] (BFo4 l t P Y y S own need a M es n)
 else False
 else False
 else False
 else False
 else X (.exit 2) [I i, VV.ptr (.own 22 0), VV.yld 21, VV.ptr (.own 19 0), VV.ptr (.own 20 0)] (BFo4 l t P Y y S own need a M es n)) := by kernel_rfl
noncomputable abbrev BQf4 (l : List Stk) (t : Tst) (P : List (List Int)) (Y : Nat) (y S own need : Int) (a : Nat -> Int) (A0 A1 A2 A3 : Nat -> Int) (es : Lst) (b : Bool) (n : Nat -> Int) : List VB := [.cells (tsL t) 25, .cells [pthD P] 26, .cells (stD l :: tsL t) 74, .cells [.ptr (.own 2 0)] 72, .cells [I Y] 3, .cells [sFa 7 Y, sFa 8 Y, sFa 9 Y, sFa 10 Y] 76, .cells [.slice (.own 5 0) 4 4] 75, .fam [] (Y * 6) A0 80, .fam [] (Y * 6) A1 80, .fam [] (Y * 6) A2 80, .fam [] (Y * 6) A3 80,
 .map kS .bool es, .cells [.mp 11] 77, .cells [.func 44 [] [.ptr (.own 4 0), .ptr (.own 12 0), .ptr (.own 1 0), .ptr (.own 14 0)]] 78, .cells [.func 40 [] [.ptr (.own 3 0), .ptr (.own 13 0), .ptr (.own 1 0), .ptr (.own 6 0)]] 88] ++ [faS y S a, .cells [I own] 3, .cells [I need] 3, .cells [.bool b] 4, .cells [.ptr (.own 2 0)] 72, faN a, .loop (!b) (bif b then some .ret else none) (slFo4 y S own need a) 58 [17] asFo bdFo, .fam [] 6 n 80]
noncomputable def lIo4 (l : List Stk) (t : Tst) (P : List (List Int)) (Y : Nat) (y S own need : Int) (a : Nat -> Int) : LT := fun lock tt h K =>
 ∃ M es n, FitP lock h tt ⟨24, nsFo4.zip (BFo4 l t P Y y S own need a M es n)⟩ (dsI.zip (VFi4 (l.length - 1))) /\ l.length <= 6 /\ ∀ (k : Nat) (n' : Nat -> Int), scanC a l.length n = (k, n') -> K .normal (dsI.zip (VFi4 (k - 1))) ⟨24, nsFo4.zip (BFo4 l t P Y y S own need a M es n')⟩
theorem fr4_ev (l : List Stk) (t : Tst) (D0 D1 D2 D3 : List Int) (Y k : Nat) (M : Mde) (es : Lst) (y S need : Int) (O : Nat) (a n : Nat -> Int) (X : VEx -> List VV -> List VB -> Prop) : codeE Try.prog (callN Try.prog (tabS [meetsR l t, lessT, findR4 l t [D0, D1, D2, D3] Y k]) noL 10 20) (tabB [(2, lIo4 l t [D0, D1, D2, D3] Y y S O need a)]) true 10 (ntOf Try.prog 74) 0 (loopB 0 (bodyOf Try.prog 74)) (dsC.zip VFo4) ⟨23, nsFo4.zip (BFo4 l t [D0, D1, D2, D3] Y y S O need a M es n)⟩ (obs 23 dsC nsFo4 X) =
 (let z1 := (IntKind.i64.wrap (↑(BitVec.ofInt IntKind.i64.bits ((↑O : Int).fdiv ((2 : Int) ^ min ((0 : Int) + (1 : Int) + (1 : Int) + (1 : Int)).toNat IntKind.i64.bits)) &&& BitVec.ofInt IntKind.i64.bits (1 : Int)).toNat : Int) = (1 : Int));
 let z2 := [VV.ptr (.own 22 0), VV.yld 21, VV.ptr (.own 19 0), VV.ptr (.own 20 0)];
 let z3 := [n (0 + 0), n (0 + 1), n (0 + 2), n (0 + 3), n (0 + 4), n (0 + 5)];
 let z4 := (IntKind.i64.wrap (↑(BitVec.ofInt IntKind.i64.bits ((↑O : Int).fdiv ((2 : Int) ^ min ((0 : Int) + (1 : Int) + (1 : Int)).toNat IntKind.i64.bits)) &&& BitVec.ofInt IntKind.i64.bits (1 : Int)).toNat : Int) = (1 : Int));
 let z5 := ((5, I ((↑l.length : Int) - (1 : Int))) :: (15, I ((↑l.length : Int) - (1 : Int))) :: (14, I (↑l.length : Int)) :: (13, VV.tl l.length 5 (stG l)) :: (12, VV.ptr (.own 2 0)) :: (11, VV.ptr (.own 2 0)) :: (10, VV.ptr (.own 2 0)) :: (9, VV.bool false) :: (9, VV.bool !true) :: (8, VV.bool true) :: (7, VV.agg [I (n (0 + 0)), I (n (0 + 1)), I (n (0 + 2)), I (n (0 + 3)), I (n (0 + 4)), I (n (0 + 5))]) :: (6, VV.yld 21) :: dsC.zip VFo4);
 let z6 := [I (setF (fun (_ : Nat) => (0 : Int)) 0 z3 (0 + 0)), I (setF (fun (_ : Nat) => (0 : Int)) 0 z3 (0 + 1)), I (setF (fun (_ : Nat) => (0 : Int)) 0 z3 (0 + 2)), I (setF (fun (_ : Nat) => (0 : Int)) 0 z3 (0 + 3)), I (setF (fun (_ : Nat) => (0 : Int)) 0 z3 (0 + 4)), I (setF (fun (_ : Nat) => (0 : Int)) 0 z3 (0 + 5))];
 let z7 := (VH.mk (24) ((21, VB.gone) :: (23, VB.fam [] (6) (setF (fun (_ : Nat) => (0 : Int)) 0 z3) 80) :: (23, VB.fam [] (6) (fun (_ : Nat) => (0 : Int)) 80) :: nsFo4.zip (BFo4 l t [D0, D1, D2, D3] Y y S (↑O : Int) need a M es n)));
 let z8 := (IntKind.i64.wrap (↑(BitVec.ofInt IntKind.i64.bits ((↑O : Int).fdiv ((2 : Int) ^ min ((0 : Int) + (1 : Int)).toNat IntKind.i64.bits)) &&& BitVec.ofInt IntKind.i64.bits (1 : Int)).toNat : Int) = (1 : Int));
 let z9 := (fun (k : Nat) => (ch a).getD k (0 : Int));
 (∃ (n_1 : Nat -> Int), isD z7 4 (VV.ptr (.own 2 0)) (VV.tp (stD l :: tsL t)) /\ z6 = nL n_1 /\ (conB l t n_1 /\ (0 : Int) <= y /\ y <= (1000 : Int)) /\ bif !meetsF l t n_1 y need then
 bif inK .i64 ((↑l.length : Int) - (1 : Int)) then
 ∃ (M_1 : Mde), ∃ (es_1 : Lst), ∃ (n_2 : Nat -> Int), FitP 0 (VH.mk (24) ((21, VB.loop true none (slFo4 y S (↑O : Int) need a) 58 [17] asFo bdFo) :: (21, VB.gone) :: (23, VB.fam [] (6) (setF (fun (_ : Nat) => (0 : Int)) 0 z3) 80) :: (23, VB.fam [] (6) (fun (_ : Nat) => (0 : Int)) 80) :: nsFo4.zip (BFo4 l t [D0, D1, D2, D3] Y y S (↑O : Int) need a M es n))) z5 (VH.mk 24 (nsFo4.zip (BFo4 l t [D0, D1, D2, D3] Y y S (↑O : Int) need a M_1 es_1 n_2))) (dsI.zip (VFi4 ((↑l.length : Int) - (1 : Int)))) /\ l.length <= 6 /\ ∀ (k : Nat) (n' : Nat -> Int), scanC a l.length n_2 = (k, n') -> bif decide ((↑k : Int) - (1 : Int) < (0 : Int)) then
 X .ret z2 (BFo4 l t [D0, D1, D2, D3] Y y S O need a M_1 es_1 n')
 else bif decide ((0 : Int) <= (↑k : Int) - (1 : Int) /\ (↑k : Int) - (1 : Int) < (↑6 : Int)) then
 bif decide (((↑k : Int) - (1 : Int)).toNat * (1) < 6) then
 bif inK .i64 (n' (((↑k : Int) - (1 : Int)).toNat * (1)) + (1 : Int)) then
 bif decide ((0 : Int) <= (↑k : Int) - (1 : Int) /\ (↑k : Int) - (1 : Int) < (↑6 : Int)) then
 bif decide (((↑k : Int) - (1 : Int)).toNat * (1) + (1) <= 6) then
 X .normal z2 (BFo4 l t [D0, D1, D2, D3] Y y S O need a M_1 es_1 (setF n' (((↑k : Int) - (1 : Int)).toNat * (1)) [n' (((↑k : Int) - (1 : Int)).toNat * (1)) + (1 : Int)]))
 else False
 else False
 else False
 else False
 else False
 else False
 else bif inK .i64 (y + (1 : Int)) then
 ∃ (a_1 : Nat -> Int), ∃ (b : Nat -> Int), [I (z9 (0 + 0)), I (z9 (0 + 1)), I (z9 (0 + 2)), I (z9 (0 + 3)), I (z9 (0 + 4)), I (z9 (0 + 5))] = nL a_1 /\ z6 = nL b /\ bdL a_1 b /\ ∃ (S' : Nat), ∃ (a_2 : Nat -> Int), ∃ (M_1 : Mde), ∃ (es_1 : Lst), (VV.ptr (.own 4 0) = VV.ptr (.own 4 0) /\ VV.ptr (.own 12 0) = VV.ptr (.own 12 0) /\ VV.ptr (.own 1 0) = VV.ptr (.own 1 0) /\ VV.ptr (.own 14 0) = VV.ptr (.own 14 0)) /\ (0 = 0 /\ 15 <= 24) /\ atL nsB4 (BP4 l t [D0, D1, D2, D3] Y M_1 es_1) z7 /\ (y + (1 : Int) = (↑Y : Int) - (↑k : Int) /\ (↑O : Int) = (↑S' : Int) /\ [I (lsF a_1 b 6 0), I (lsF a_1 b 6 1), I (lsF a_1 b 6 2), I (lsF a_1 b 6 3), I (lsF a_1 b 6 4), I (lsF a_1 b 6 5)] = nL a_2) /\ PreF l t [D0, D1, D2, D3] Y k S' a_2 es_1 /\ ∀ (b : Bool) (s : St), PostF l t [D0, D1, D2, D3] Y k S' a_2 M_1 b s -> bif !b then
 bif inK .i64 ((↑l.length : Int) - (1 : Int)) then
 ∃ (M_2 : Mde), ∃ (es_2 : Lst), ∃ (n_2 : Nat -> Int), FitP 0 (VH.mk (24) ((21, VB.loop true none (slFo4 y S (↑O : Int) need a) 58 [17] asFo bdFo) :: (7, VB.fam [] (Y * 6) (s.M 0) 80) :: (8, VB.fam [] (Y * 6) (s.M 1) 80) :: (9, VB.fam [] (Y * 6) (s.M 2) 80) :: (10, VB.fam [] (Y * 6) (s.M 3) 80) :: (11, VB.map kS PK.bool s.es) :: (21, VB.gone) :: (23, VB.fam [] (6) (setF (fun (_ : Nat) => (0 : Int)) 0 z3) 80) :: (23, VB.fam [] (6) (fun (_ : Nat) => (0 : Int)) 80) :: nsFo4.zip (BFo4 l t [D0, D1, D2, D3] Y y S (↑O : Int) need a M es n))) z5 (VH.mk 24 (nsFo4.zip (BFo4 l t [D0, D1, D2, D3] Y y S (↑O : Int) need a M_2 es_2 n_2))) (dsI.zip (VFi4 ((↑l.length : Int) - (1 : Int)))) /\ l.length <= 6 /\ ∀ (k : Nat) (n' : Nat -> Int), scanC a l.length n_2 = (k, n') -> bif decide ((↑k : Int) - (1 : Int) < (0 : Int)) then
 X .ret z2 (BFo4 l t [D0, D1, D2, D3] Y y S O need a M_2 es_2 n')
 else bif decide ((0 : Int) <= (↑k : Int) - (1 : Int) /\ (↑k : Int) - (1 : Int) < (↑6 : Int)) then
 bif decide (((↑k : Int) - (1 : Int)).toNat * (1) < 6) then
 bif inK .i64 (n' (((↑k : Int) - (1 : Int)).toNat * (1)) + (1 : Int)) then
 bif decide ((0 : Int) <= (↑k : Int) - (1 : Int) /\ (↑k : Int) - (1 : Int) < (↑6 : Int)) then
 bif decide (((↑k : Int) - (1 : Int)).toNat * (1) + (1) <= 6) then
 X .normal z2 (BFo4 l t [D0, D1, D2, D3] Y y S O need a M_2 es_2 (setF n' (((↑k : Int) - (1 : Int)).toNat * (1)) [n' (((↑k : Int) - (1 : Int)).toNat * (1)) + (1 : Int)]))
 else False
 else False
 else False
 else False
 else False
 else False
 else bif decide (IntKind.i64.wrap (↑(BitVec.ofInt IntKind.i64.bits ((↑O : Int).fdiv ((2 : Int) ^ min (Int.toNat (0 : Int)) IntKind.i64.bits)) &&& BitVec.ofInt IntKind.i64.bits (1 : Int)).toNat : Int) = (1 : Int)) then
 bif decide ((0 : Int) <= y /\ y < (↑Y : Int)) then
 bif decide (0 + y.toNat * (6) + (6) <= Y * 6) then
 bif decide z8 then
 bif decide ((0 : Int) <= y /\ y < (↑Y : Int)) then
 bif decide (0 + y.toNat * (6) + (6) <= Y * 6) then
 bif decide z4 then
 bif decide ((0 : Int) <= y /\ y < (↑Y : Int)) then
 bif decide (0 + y.toNat * (6) + (6) <= Y * 6) then
 bif decide z1 then
 bif decide ((0 : Int) <= y /\ y < (↑Y : Int)) then
 bif decide (0 + y.toNat * (6) + (6) <= Y * 6) then
 X .ret z2 (BQf4 l t [D0, D1, D2, D3] Y y S O need a (s6 s 0 y n) (s6 s 1 y n) (s6 s 2 y n) (s6 s 3 y n) s.es true n)
 else False
 else False
 else X .ret z2 (BQf4 l t [D0, D1, D2, D3] Y y S O need a (s6 s 0 y n) (s6 s 1 y n) (s6 s 2 y n) (s.M 3) s.es true n)
 else False
 else False
 else bif decide z1 then
 bif decide ((0 : Int) <= y /\ y < (↑Y : Int)) then
 bif decide (0 + y.toNat * (6) + (6) <= Y * 6) then
 X .ret z2 (BQf4 l t [D0, D1, D2, D3] Y y S O need a (s6 s 0 y n) (s6 s 1 y n) (s.M 2) (s6 s 3 y n) s.es true n)
 else False
 else False
 else X .ret z2 (BQf4 l t [D0, D1, D2, D3] Y y S O need a (s6 s 0 y n) (s6 s 1 y n) (s.M 2) (s.M 3) s.es true n)
 else False
 else False
 else bif decide z4 then
 bif decide ((0 : Int) <= y /\ y < (↑Y : Int)) then
 bif decide (0 + y.toNat * (6) + (6) <= Y * 6) then
 bif decide z1 then
 bif decide ((0 : Int) <= y /\ y < (↑Y : Int)) then
 bif decide (0 + y.toNat * (6) + (6) <= Y * 6) then
 X .ret z2 (BQf4 l t [D0, D1, D2, D3] Y y S O need a (s6 s 0 y n) (s.M 1) (s6 s 2 y n) (s6 s 3 y n) s.es true n)
 else False
 else False
 else X .ret z2 (BQf4 l t [D0, D1, D2, D3] Y y S O need a (s6 s 0 y n) (s.M 1) (s6 s 2 y n) (s.M 3) s.es true n)
 else False
 else False
 else bif decide z1 then
 bif decide ((0 : Int) <= y /\ y < (↑Y : Int)) then
 bif decide (0 + y.toNat * (6) + (6) <= Y * 6) then
 X .ret z2 (BQf4 l t [D0, D1, D2, D3] Y y S O need a (s6 s 0 y n) (s.M 1) (s.M 2) (s6 s 3 y n) s.es true n)
 else False
 else False
 else X .ret z2 (BQf4 l t [D0, D1, D2, D3] Y y S O need a (s6 s 0 y n) (s.M 1) (s.M 2) (s.M 3) s.es true n)
 else False
 else False
 else bif decide z8 then
 bif decide ((0 : Int) <= y /\ y < (↑Y : Int)) then
 bif decide (0 + y.toNat * (6) + (6) <= Y * 6) then
 bif decide z4 then
 bif decide ((0 : Int) <= y /\ y < (↑Y : Int)) then
 bif decide (0 + y.toNat * (6) + (6) <= Y * 6) then
 bif decide z1 then
 bif decide ((0 : Int) <= y /\ y < (↑Y : Int)) then
 bif decide (0 + y.toNat * (6) + (6) <= Y * 6) then
 X .ret z2 (BQf4 l t [D0, D1, D2, D3] Y y S O need a (s.M 0) (s6 s 1 y n) (s6 s 2 y n) (s6 s 3 y n) s.es true n)
 else False
 else False
 else X .ret z2 (BQf4 l t [D0, D1, D2, D3] Y y S O need a (s.M 0) (s6 s 1 y n) (s6 s 2 y n) (s.M 3) s.es true n)
 else False
 else False
 else bif decide z1 then
 bif decide ((0 : Int) <= y /\ y < (↑Y : Int)) then
 bif decide (0 + y.toNat * (6) + (6) <= Y * 6) then
 X .ret z2 (BQf4 l t [D0, D1, D2, D3] Y y S O need a (s.M 0) (s6 s 1 y n) (s.M 2) (s6 s 3 y n) s.es true n)
 else False
 else False
 else X .ret z2 (BQf4 l t [D0, D1, D2, D3] Y y S O need a (s.M 0) (s6 s 1 y n) (s.M 2) (s.M 3) s.es true n)
 else False
 else False
 else bif decide z4 then
 bif decide ((0 : Int) <= y /\ y < (↑Y : Int)) then
 bif decide (0 + y.toNat * (6) + (6) <= Y * 6) then
 bif decide z1 then
 bif decide ((0 : Int) <= y /\ y < (↑Y : Int)) then
 bif decide (0 + y.toNat * (6) + (6) <= Y * 6) then
 X .ret z2 (BQf4 l t [D0, D1, D2, D3] Y y S O need a (s.M 0) (s.M 1) (s6 s 2 y n) (s6 s 3 y n) s.es true n)
 else False
 else False
 else X .ret z2 (BQf4 l t [D0, D1, D2, D3] Y y S O need a (s.M 0) (s.M 1) (s6 s 2 y n) (s.M 3) s.es true n)
 else False
 else False
 else bif decide z1 then
 bif decide ((0 : Int) <= y /\ y < (↑Y : Int)) then
 bif decide (0 + y.toNat * (6) + (6) <= Y * 6) then
 X .ret z2 (BQf4 l t [D0, D1, D2, D3] Y y S O need a (s.M 0) (s.M 1) (s.M 2) (s6 s 3 y n) s.es true n)
 else False
 else False
 else X .ret z2 (BQf4 l t [D0, D1, D2, D3] Y y S O need a (s.M 0) (s.M 1) (s.M 2) (s.M 3) s.es true n)
 else False)) := by kernel_rfl
noncomputable def BFoT4 (l : List Stk) (t : Tst) (P : List (List Int)) (Y : Nat) (y S own need : Int) (a : Nat -> Int) (M : Mde) (es : Lst) (n : Nat -> Int) : List VB := BP4 l t P Y M es ++ [faS y S a, .cells [I own] 3, .cells [I need] 3, .cells [.bool true] 4, .cells [.ptr (.own 2 0)] 72, faN a, .loop false (some .ret) (slFo4 y S own need a) 58 [17] asFo bdFo, .fam [] 6 n 80]
noncomputable def lFo4 (l : List Stk) (t : Tst) (P : List (List Int)) (Y k : Nat) (y S d : Int) (O : Nat) (a : Nat -> Int) : LT := fun lock tt h K =>
 ∃ M es, FitP lock h tt ⟨23, nsFo4.zip (BFo4 l t P Y y S O d a M es fun _ => 0)⟩ (dsC.zip VFo4) /\ (y = (Y : Int) - (k + 1 : Nat) /\ Cfg l t P Y /\ PreW l t P Y k O a es) /\ (∀ s n', PostW l t P Y k O d a M false s -> K .ret (dsC.zip VFo4) ⟨23, nsFo4.zip (BFo4 l t P Y y S O d a s.M s.es n')⟩) /\
  ∀ s n', PostW l t P Y k O d a M true s -> K .ret (dsC.zip VFo4) ⟨23, nsFo4.zip (BFoT4 l t P Y y S O d a s.M s.es n')⟩
theorem fob4_ev (l : List Stk) (t : Tst) (D0 D1 D2 D3 : List Int) (Y k : Nat) (M : Mde) (es : Lst) (y S d : Int) (O : Nat) (a : Nat -> Int) (Q : VRes -> VH -> Prop) : callN Try.prog noSpec (atF 74 [(0, lFo4 l t [D0, D1, D2, D3] Y k y S d O a)]) 10 20 0 (.fn 40) [.agg (I y :: I S :: nL a), I O, I d, .ptr (.own 3 0), .ptr (.own 13 0), .ptr (.own 1 0), .ptr (.own 6 0)] ⟨15, nsB4.zip (BP4 l t [D0, D1, D2, D3] Y M es)⟩ (fun r h => Q r h) =
 (∃ (M_1 : Mde), ∃ (es_1 : Lst), FitP 0 (VH.mk (23) ((22, VB.fam [] (6) (fun (_ : Nat) => (0 : Int)) 80) :: (21, VB.loop true none [(16, VV.func 74 [] [VV.ptr (.own (19) 0), VV.ptr (.own (20) 0)]), (15, VV.agg [I ((f6 a) (0 + 0)), I ((f6 a) (0 + 1)), I ((f6 a) (0 + 2)), I ((f6 a) (0 + 3)), I ((f6 a) (0 + 4)), I ((f6 a) (0 + 5))]), (14, VV.ptr (.own (15) (2))), (13, VV.ptr (.own 2 0)), (10, VV.ptr (.own (18) 0)), (9, VV.ptr (.own (17) 0)), (8, VV.ptr (.own (16) 0)), (7, VV.ptr (.own (15) 0)), (0, VV.agg (I y :: I S :: nL a)), (1, I (↑O : Int)), (2, I d), (3, VV.ptr (.own 3 0)), (4, VV.ptr (.own 13 0)), (5, VV.ptr (.own 1 0)), (6, VV.ptr (.own 6 0))] 58 [17] asFo bdFo) :: (20, VB.fam [] (6) (fun (k : Nat) => [(f6 a) (0 + 0), (f6 a) (0 + 1), (f6 a) (0 + 2), (f6 a) (0 + 3), (f6 a) (0 + 4), (f6 a) (0 + 5)].getD k (0 : Int)) 80) :: (19, VB.cells [VV.ptr (.own 2 0)] 72) :: (18, VB.cells [VV.bool false] 4) :: (17, VB.cells [I d] 3) :: (16, VB.cells [I (↑O : Int)] 3) :: (15, VB.fam [I y, I S] (6) (f6 a) 82) :: nsB4.zip (BP4 l t [D0, D1, D2, D3] Y M es))) [(4, VV.ptr (.own (22) 0)), (0, VV.yld (21)), (1, VV.ptr (.own (19) 0)), (2, VV.ptr (.own (20) 0))] (VH.mk 23 (nsFo4.zip (BFo4 l t [D0, D1, D2, D3] Y y S (↑O : Int) d a M_1 es_1 fun (_ : Nat) => (0 : Int)))) (dsC.zip VFo4) /\ (y = (↑Y : Int) - (↑(k + 1) : Int) /\ Cfg l t [D0, D1, D2, D3] Y /\ PreW l t [D0, D1, D2, D3] Y k O a es_1) /\ (∀ (s : St) (n' : Nat -> Int), PostW l t [D0, D1, D2, D3] Y k O d a M_1 false s -> Q (.ret (.bool false)) (VH.mk 23 [(18, VB.cells [VV.bool false] 4), (21, VB.gone), (0, VB.cells [VV.tl t.T.length 1 (dG t.T), I t.far, I t.least] 25), (1, VB.cells [VV.tl [D0, D1, D2, D3].length 1 (pthG [D0, D1, D2, D3])] 26), (2, VB.cells (stD l :: tsL t) 74), (3, VB.cells [VV.ptr (.own 2 0)] 72), (4, VB.cells [I (↑Y : Int)] 3), (5, VB.cells [sFa 7 Y, sFa 8 Y, sFa 9 Y, sFa 10 Y] 76), (6, VB.cells [VV.slice (.own 5 0) 4 4] 75), (7, VB.fam [] (Y * 6) (s.M 0) 80), (8, VB.fam [] (Y * 6) (s.M 1) 80), (9, VB.fam [] (Y * 6) (s.M 2) 80), (10, VB.fam [] (Y * 6) (s.M 3) 80), (11, VB.map kS PK.bool s.es), (12, VB.cells [VV.mp 11] 77), (13, VB.cells [VV.func 44 [] [VV.ptr (.own 4 0), VV.ptr (.own 12 0), VV.ptr (.own 1 0), VV.ptr (.own 14 0)]] 78), (14, VB.cells [VV.func 40 [] [VV.ptr (.own 3 0), VV.ptr (.own 13 0), VV.ptr (.own 1 0), VV.ptr (.own 6 0)]] 88), (15, VB.fam [I y, I S] 6 (fun (k : Nat) => (ch a).getD k (0 : Int)) 82), (16, VB.cells [I (↑O : Int)] 3), (17, VB.cells [I d] 3), (18, VB.cells [VV.bool false] 4), (19, VB.cells [VV.ptr (.own 2 0)] 72), (20, VB.fam [] 6 (fun (k : Nat) => (ch a).getD k (0 : Int)) 80), (21, VB.loop true none (slFo4 y S (↑O : Int) d a) 58 [17] asFo bdFo), (22, VB.fam [] 6 n' 80)])) /\ ∀ (s : St) (n' : Nat -> Int), PostW l t [D0, D1, D2, D3] Y k O d a M_1 true s -> Q (.ret (.bool true)) (VH.mk 23 [(21, VB.gone), (0, VB.cells [VV.tl t.T.length 1 (dG t.T), I t.far, I t.least] 25), (1, VB.cells [VV.tl [D0, D1, D2, D3].length 1 (pthG [D0, D1, D2, D3])] 26), (2, VB.cells (stD l :: tsL t) 74), (3, VB.cells [VV.ptr (.own 2 0)] 72), (4, VB.cells [I (↑Y : Int)] 3), (5, VB.cells [sFa 7 Y, sFa 8 Y, sFa 9 Y, sFa 10 Y] 76), (6, VB.cells [VV.slice (.own 5 0) 4 4] 75), (7, VB.fam [] (Y * 6) (s.M 0) 80), (8, VB.fam [] (Y * 6) (s.M 1) 80), (9, VB.fam [] (Y * 6) (s.M 2) 80), (10, VB.fam [] (Y * 6) (s.M 3) 80), (11, VB.map kS PK.bool s.es), (12, VB.cells [VV.mp 11] 77), (13, VB.cells [VV.func 44 [] [VV.ptr (.own 4 0), VV.ptr (.own 12 0), VV.ptr (.own 1 0), VV.ptr (.own 14 0)]] 78), (14, VB.cells [VV.func 40 [] [VV.ptr (.own 3 0), VV.ptr (.own 13 0), VV.ptr (.own 1 0), VV.ptr (.own 6 0)]] 88), (15, VB.fam [I y, I S] 6 (fun (k : Nat) => (ch a).getD k (0 : Int)) 82), (16, VB.cells [I (↑O : Int)] 3), (17, VB.cells [I d] 3), (18, VB.cells [VV.bool true] 4), (19, VB.cells [VV.ptr (.own 2 0)] 72), (20, VB.fam [] 6 (fun (k : Nat) => (ch a).getD k (0 : Int)) 80), (21, VB.loop false (some VEx.ret) (slFo4 y S (↑O : Int) d a) 58 [17] asFo bdFo), (22, VB.fam [] 6 n' 80)])) := by kernel_rfl
def dsF4 : List Nat := [7, 6, 5, 0, 1, 2, 3, 4]
def VF4 (y S : Int) (a : Nat -> Int) (r : Int) : List VV := [I r, .bool false, .ptr (.own 15 0), .agg (I y :: I S :: nL a), .ptr (.own 4 0), .ptr (.own 12 0), .ptr (.own 1 0), .ptr (.own 14 0)]
def nsF4 : List Nat := [0, 1, 2, 3, 4, 5, 6, 7, 8, 9, 10, 11, 12, 13, 14, 15]
def BF4 (l : List Stk) (t : Tst) (P : List (List Int)) (Y : Nat) (y S : Int) (a : Nat -> Int) (M : Mde) (es : Lst) : List VB := BP4 l t P Y M es ++ [faS y S a]
def dsG4 : List Nat := [25, 24, 23, 9, 8] ++ dsF4
def VG4 (P : List (List Int)) (y S : Int) (a : Nat -> Int) (r i d o : Int) : List VV := [I i, I P.length, pthD P, I d, I o] ++ VF4 y S a r
theorem gi4_ev (l : List Stk) (t : Tst) (P : List (List Int)) (Y : Nat) (M : Mde) (es : Lst) (y S i d : Int) (o r : Nat) (a : Nat -> Int) (X : VEx -> List VV -> List VB -> Prop) : codeE Try.prog (callN Try.prog noSpec noL 10 20) (fun _ => none) true 10 (ntOf Try.prog 44) 0 (loopB 2 (bodyOf Try.prog 44)) (dsG4.zip (VG4 P y S a r i d o)) ⟨16, nsF4.zip (BF4 l t P Y y S a M es)⟩ (obs 16 dsG4 nsF4 X) =
 (let z1 := [VB.cells [VV.tl t.T.length 1 (dG t.T), I t.far, I t.least] 25, VB.cells [VV.tl P.length 1 (pthG P)] 26, VB.cells (stD l :: tsL t) 74, VB.cells [VV.ptr (.own 2 0)] 72, VB.cells [I (↑Y : Int)] 3, VB.cells [sFa 7 Y, sFa 8 Y, sFa 9 Y, sFa 10 Y] 76, VB.cells [VV.slice (.own 5 0) 4 4] 75, VB.fam [] (Y * 6) (M 0) 80, VB.fam [] (Y * 6) (M 1) 80, VB.fam [] (Y * 6) (M 2) 80, VB.fam [] (Y * 6) (M 3) 80, VB.map kS PK.bool es, VB.cells [VV.mp 11] 77, VB.cells [VV.func 44 [] [VV.ptr (.own 4 0), VV.ptr (.own 12 0), VV.ptr (.own 1 0), VV.ptr (.own 14 0)]] 78, VB.cells [VV.func 40 [] [VV.ptr (.own 3 0), VV.ptr (.own 13 0), VV.ptr (.own 1 0), VV.ptr (.own 6 0)]] 88, VB.fam [I y, I S] 6 (fun (k : Nat) => (ch a).getD k (0 : Int)) 82];
 let z2 := [I (i + (1 : Int)), I (↑P.length : Int), VV.tl P.length 1 (pthG P), I ((P.getD i.toNat []).getD y.toNat (0 : Int)), I (IntKind.i64.wrap (↑(BitVec.ofInt IntKind.i64.bits (↑o : Int) ||| BitVec.ofInt IntKind.i64.bits ((1 : Int) * (2 : Int) ^ min i.toNat IntKind.i64.bits)).toNat : Int)), I (↑r : Int), VV.bool false, VV.ptr (.own 15 0), VV.agg [I y, I S, I (a 0), I (a 1), I (a 2), I (a 3), I (a 4), I (a 5)], VV.ptr (.own 4 0), VV.ptr (.own 12 0), VV.ptr (.own 1 0), VV.ptr (.own 14 0)];
 let z3 := [I (i + (1 : Int)), I (↑P.length : Int), VV.tl P.length 1 (pthG P), I d, I (↑o : Int), I (↑r : Int), VV.bool false, VV.ptr (.own 15 0), VV.agg [I y, I S, I (a 0), I (a 1), I (a 2), I (a 3), I (a 4), I (a 5)], VV.ptr (.own 4 0), VV.ptr (.own 12 0), VV.ptr (.own 1 0), VV.ptr (.own 14 0)];
 (bif decide (i < (↑P.length : Int)) then
 bif decide ((0 : Int) <= i /\ i < (↑P.length : Int)) then
 bif decide (i < (0 : Int)) then
 False
 else bif decide (IntKind.i64.wrap (↑(BitVec.ofInt IntKind.i64.bits ((↑r : Int).fdiv ((2 : Int) ^ min i.toNat IntKind.i64.bits)) &&& BitVec.ofInt IntKind.i64.bits (1 : Int)).toNat : Int) = (1 : Int)) then
 bif decide (d < (0 : Int)) then
 bif decide (i < (0 : Int)) then
 False
 else bif inK .i64 ((1 : Int) * (2 : Int) ^ min i.toNat IntKind.i64.bits) then
 bif decide ((0 : Int) <= y /\ y < (↑(P.getD i.toNat []).length : Int)) then
 bif inK .i64 (i + (1 : Int)) then
 X .normal z2 z1
 else False
 else False
 else False
 else bif decide ((0 : Int) <= y /\ y < (↑(P.getD i.toNat []).length : Int)) then
 bif decide ((P.getD i.toNat []).getD y.toNat (0 : Int) = d) then
 bif decide (i < (0 : Int)) then
 False
 else bif inK .i64 ((1 : Int) * (2 : Int) ^ min i.toNat IntKind.i64.bits) then
 bif decide ((0 : Int) <= y /\ y < (↑(P.getD i.toNat []).length : Int)) then
 bif inK .i64 (i + (1 : Int)) then
 X .normal z2 z1
 else False
 else False
 else False
 else bif inK .i64 (i + (1 : Int)) then
 X .normal z3 z1
 else False
 else False
 else bif inK .i64 (i + (1 : Int)) then
 X .normal z3 z1
 else False
 else False
 else X (.exit 2) [I i, I (↑P.length : Int), VV.tl P.length 1 (pthG P), I d, I (↑o : Int), I (↑r : Int), VV.bool false, VV.ptr (.own 15 0), VV.agg [I y, I S, I (a 0), I (a 1), I (a 2), I (a 3), I (a 4), I (a 5)], VV.ptr (.own 4 0), VV.ptr (.own 12 0), VV.ptr (.own 1 0), VV.ptr (.own 14 0)] z1)) := by kernel_rfl
def lG4 (l : List Stk) (t : Tst) (P : List (List Int)) (Y k : Nat) (y S : Int) (a : Nat -> Int) (r : Nat) : LT := fun lock tt h K =>
 ∃ M es, FitP lock h tt ⟨16, nsF4.zip (BF4 l t P Y y S a M es)⟩ (dsG4.zip (VG4 P y S a r 0 (-1) 0)) /\ (y = ((Y - (k + 1) : Nat) : Int) /\ k + 1 <= Y /\ Cfg l t P Y /\ r < 16) /\ ∀ o d, grpF P (Y - (k + 1)) r P.length = (o, d) -> K .normal (dsG4.zip (VG4 P y S a r P.length d o)) ⟨16, nsF4.zip (BF4 l t P Y y S a M es)⟩
theorem gm4_ev (l : List Stk) (t : Tst) (D0 D1 D2 D3 : List Int) (Y k : Nat) (M : Mde) (es : Lst) (y : Int) (S r : Nat) (a : Nat -> Int) (X : VEx -> List VV -> List VB -> Prop) : codeE Try.prog (callN Try.prog (tabS [folR4 l t [D0, D1, D2, D3] Y k]) noL 10 20) (tabB [(2, lG4 l t [D0, D1, D2, D3] Y k y S a r)]) true 10 (ntOf Try.prog 44) 0 (loopB 0 (bodyOf Try.prog 44)) (dsF4.zip (VF4 y S a r)) ⟨16, nsF4.zip (BF4 l t [D0, D1, D2, D3] Y y S a M es)⟩ (obs 16 dsF4 nsF4 X) =
 (let z1 := (fun (k : Nat) => (ch a).getD k (0 : Int));
 let z2 := [I (↑r : Int), VV.bool false, VV.ptr (.own 15 0), VV.agg [I y, I (↑S : Int), I (a 0), I (a 1), I (a 2), I (a 3), I (a 4), I (a 5)], VV.ptr (.own 4 0), VV.ptr (.own 12 0), VV.ptr (.own 1 0), VV.ptr (.own 14 0)];
 let z3 := [VV.func 44 [] [VV.ptr (.own 4 0), VV.ptr (.own 12 0), VV.ptr (.own 1 0), VV.ptr (.own 14 0)]];
 let z4 := [VV.func 40 [] [VV.ptr (.own 3 0), VV.ptr (.own 13 0), VV.ptr (.own 1 0), VV.ptr (.own 6 0)]];
 (bif decide ((↑r : Int) > (0 : Int)) then
 ∃ (M_1 : Mde), ∃ (es_1 : Lst), FitP 0 (VH.mk 16 (nsF4.zip (BF4 l t [D0, D1, D2, D3] Y y (↑S : Int) a M es))) ((25, I 0) :: (24, I (↑[D0, D1, D2, D3].length : Int)) :: (23, VV.tl [D0, D1, D2, D3].length 1 (pthG [D0, D1, D2, D3])) :: (9, I (-1)) :: (8, I 0) :: (22, VV.bool true) :: (22, VV.bool (decide ((↑r : Int) > (0 : Int)))) :: (21, I (↑r : Int)) :: dsF4.zip (VF4 y (↑S : Int) a (↑r : Int))) (VH.mk 16 (nsF4.zip (BF4 l t [D0, D1, D2, D3] Y y (↑S : Int) a M_1 es_1))) (dsG4.zip (VG4 [D0, D1, D2, D3] y (↑S : Int) a (↑r : Int) (0 : Int) (-1 : Int) (0 : Int))) /\ (y = (↑(Y - (k + 1)) : Int) /\ k + 1 <= Y /\ Cfg l t [D0, D1, D2, D3] Y /\ r < 16) /\ ∀ (o : Nat) (d : Int), grpF [D0, D1, D2, D3] (Y - (k + 1)) r [D0, D1, D2, D3].length = (o, d) -> ∃ (S' : Nat), ∃ (O : Nat), ∃ (a_2 : Nat -> Int), ∃ (M : Mde), ∃ (es : Lst), (VV.ptr (.own 3 0) = VV.ptr (.own 3 0) /\ VV.ptr (.own 13 0) = VV.ptr (.own 13 0) /\ VV.ptr (.own 1 0) = VV.ptr (.own 1 0) /\ VV.ptr (.own 6 0) = VV.ptr (.own 6 0)) /\ (0 = 0 /\ 15 <= 16) /\ atL nsB4 (BP4 l t [D0, D1, D2, D3] Y M es) (VH.mk 16 (nsF4.zip (BF4 l t [D0, D1, D2, D3] Y y (↑S : Int) a M_1 es_1))) /\ (y = (↑Y : Int) - (↑(k + 1) : Int) /\ (↑S : Int) = (↑S' : Int) /\ (↑o : Int) = (↑O : Int) /\ [I (z1 (0 + 0)), I (z1 (0 + 1)), I (z1 (0 + 2)), I (z1 (0 + 3)), I (z1 (0 + 4)), I (z1 (0 + 5))] = nL a_2) /\ PreW l t [D0, D1, D2, D3] Y k O a_2 es /\ ∀ (b : Bool) (s : St), PostW l t [D0, D1, D2, D3] Y k O d a_2 M b s -> bif !b then
 KeyLaw Try.prog 82 kS /\ X .ret z2 [VB.cells [VV.tl t.T.length 1 (dG t.T), I t.far, I t.least] 25, VB.cells [VV.tl [D0, D1, D2, D3].length 1 (pthG [D0, D1, D2, D3])] 26, VB.cells (stD l :: tsL t) 74, VB.cells [VV.ptr (.own 2 0)] 72, VB.cells [I (↑Y : Int)] 3, VB.cells [sFa 7 Y, sFa 8 Y, sFa 9 Y, sFa 10 Y] 76, VB.cells [VV.slice (.own 5 0) 4 4] 75, VB.fam [] (Y * 6) (s.M 0) 80, VB.fam [] (Y * 6) (s.M 1) 80, VB.fam [] (Y * 6) (s.M 2) 80, VB.fam [] (Y * 6) (s.M 3) 80, VB.map kS PK.bool (setE s.es [y, (↑S : Int), z1 (0 + 0), z1 (0 + 1), z1 (0 + 2), z1 (0 + 3), z1 (0 + 4), z1 (0 + 5)] (bif true then
 (1 : Int)
 else (0 : Int))), VB.cells [VV.mp 11] 77, VB.cells z3 78, VB.cells z4 88, VB.fam [I y, I (↑S : Int)] 6 z1 82]
 else X .normal [I (IntKind.i64.wrap (↑(BitVec.ofInt IntKind.i64.bits (↑r : Int) &&& ~~~BitVec.ofInt IntKind.i64.bits (↑o : Int)).toNat : Int)), VV.bool false, VV.ptr (.own 15 0), VV.agg [I y, I (↑S : Int), I (a 0), I (a 1), I (a 2), I (a 3), I (a 4), I (a 5)], VV.ptr (.own 4 0), VV.ptr (.own 12 0), VV.ptr (.own 1 0), VV.ptr (.own 14 0)] [VB.cells [VV.tl t.T.length 1 (dG t.T), I t.far, I t.least] 25, VB.cells [VV.tl [D0, D1, D2, D3].length 1 (pthG [D0, D1, D2, D3])] 26, VB.cells (stD l :: tsL t) 74, VB.cells [VV.ptr (.own 2 0)] 72, VB.cells [I (↑Y : Int)] 3, VB.cells [sFa 7 Y, sFa 8 Y, sFa 9 Y, sFa 10 Y] 76, VB.cells [VV.slice (.own 5 0) 4 4] 75, VB.fam [] (Y * 6) (s.M 0) 80, VB.fam [] (Y * 6) (s.M 1) 80, VB.fam [] (Y * 6) (s.M 2) 80, VB.fam [] (Y * 6) (s.M 3) 80, VB.map kS PK.bool s.es, VB.cells [VV.mp 11] 77, VB.cells z3 78, VB.cells z4 88, VB.fam [I y, I (↑S : Int)] 6 z1 82]
 else X (.exit 0) z2 [VB.cells [VV.tl t.T.length 1 (dG t.T), I t.far, I t.least] 25, VB.cells [VV.tl [D0, D1, D2, D3].length 1 (pthG [D0, D1, D2, D3])] 26, VB.cells (stD l :: tsL t) 74, VB.cells [VV.ptr (.own 2 0)] 72, VB.cells [I (↑Y : Int)] 3, VB.cells [sFa 7 Y, sFa 8 Y, sFa 9 Y, sFa 10 Y] 76, VB.cells [VV.slice (.own 5 0) 4 4] 75, VB.fam [] (Y * 6) (M 0) 80, VB.fam [] (Y * 6) (M 1) 80, VB.fam [] (Y * 6) (M 2) 80, VB.fam [] (Y * 6) (M 3) 80, VB.map kS PK.bool es, VB.cells [VV.mp 11] 77, VB.cells z3 78, VB.cells z4 88, VB.fam [I y, I (↑S : Int)] 6 z1 82])) := by kernel_rfl
def lFi4 (l : List Stk) (t : Tst) (P : List (List Int)) (Y k : Nat) (y : Int) (S : Nat) (a : Nat -> Int) : LT := fun lock tt h K =>
 ∃ M es, FitP lock h tt ⟨16, nsF4.zip (BF4 l t P Y y S a M es)⟩ (dsF4.zip (VF4 y S a S)) /\ (y = (Y : Int) - (k + 1 : Nat) /\ Cfg l t P Y /\ PreF l t P Y (k + 1) S a es) /\ (∀ s, PostF l t P Y (k + 1) S a M true s -> K .normal (dsF4.zip (VF4 y S a 0)) ⟨16, nsF4.zip (BF4 l t P Y y S a s.M s.es)⟩) /\
  ∀ s (r : Int), PostF l t P Y (k + 1) S a M false s -> K .ret (dsF4.zip (VF4 y S a r)) ⟨16, nsF4.zip (BF4 l t P Y y S a s.M s.es)⟩
theorem fib4_ev (l : List Stk) (t : Tst) (D0 D1 D2 D3 : List Int) (Y k : Nat) (M : Mde) (es : Lst) (y : Int) (S : Nat) (a : Nat -> Int) (Q : VRes -> VH -> Prop) : callN Try.prog noSpec (atF 44 [(0, lFi4 l t [D0, D1, D2, D3] Y k y S a)]) 10 20 0 (.fn 44) [.agg (I y :: I S :: nL a), .ptr (.own 4 0), .ptr (.own 12 0), .ptr (.own 1 0), .ptr (.own 14 0)] ⟨15, nsB4.zip (BP4 l t [D0, D1, D2, D3] Y M es)⟩ (fun r h => Q r h) =
 (let z2 := (13, VB.cells [VV.func 44 [] [VV.ptr (.own 4 0), VV.ptr (.own 12 0), VV.ptr (.own 1 0), VV.ptr (.own 14 0)]] 78);
 let z3 := (14, VB.cells [VV.func 40 [] [VV.ptr (.own 3 0), VV.ptr (.own 13 0), VV.ptr (.own 1 0), VV.ptr (.own 6 0)]] 88);
 let z1 := (VH.mk (16) [(15, VB.fam [I y, I (↑S : Int)] (6) (f6 a) 82), (0, VB.cells [VV.tl t.T.length 1 (dG t.T), I t.far, I t.least] 25), (1, VB.cells [VV.tl [D0, D1, D2, D3].length 1 (pthG [D0, D1, D2, D3])] 26), (2, VB.cells (stD l :: tsL t) 74), (3, VB.cells [VV.ptr (.own 2 0)] 72), (4, VB.cells [I (↑Y : Int)] 3), (5, VB.cells [sFa 7 Y, sFa 8 Y, sFa 9 Y, sFa 10 Y] 76), (6, VB.cells [VV.slice (.own 5 0) 4 4] 75), (7, VB.fam [] (Y * 6) (M 0) 80), (8, VB.fam [] (Y * 6) (M 1) 80), (9, VB.fam [] (Y * 6) (M 2) 80), (10, VB.fam [] (Y * 6) (M 3) 80), (11, VB.map kS PK.bool es), (12, VB.cells [VV.mp 11] 77), z2, z3]);
 (bif decide (y = (↑Y : Int)) then
 Q (.ret (.bool true)) z1
 else KeyLaw Try.prog 82 kS /\ bif decide (valOf es [y, (↑S : Int), (f6 a) (0 + 0), (f6 a) (0 + 1), (f6 a) (0 + 2), (f6 a) (0 + 3), (f6 a) (0 + 4), (f6 a) (0 + 5)] = (1 : Int)) then
 Q (.ret (.bool false)) z1
 else ∃ (M_1 : Mde), ∃ (es_1 : Lst), FitP 0 (VH.mk (16) ((15, VB.fam [I y, I (↑S : Int)] (6) (f6 a) 82) :: nsB4.zip (BP4 l t [D0, D1, D2, D3] Y M es))) [(7, I (↑S : Int)), (20, I (↑S : Int)), (19, VV.ptr (.own (15) (1))), (18, VV.bool false), (18, VV.bool (decide (valOf es [y, (↑S : Int), (f6 a) (0 + 0), (f6 a) (0 + 1), (f6 a) (0 + 2), (f6 a) (0 + 3), (f6 a) (0 + 4), (f6 a) (0 + 5)] = (1 : Int)))), (17, VV.agg [I y, I (↑S : Int), I ((f6 a) (0 + 0)), I ((f6 a) (0 + 1)), I ((f6 a) (0 + 2)), I ((f6 a) (0 + 3)), I ((f6 a) (0 + 4)), I ((f6 a) (0 + 5))]), (16, VV.mp 11), (15, VV.bool false), (15, VV.bool (decide (y = (↑Y : Int)))), (14, I (↑Y : Int)), (13, I y), (12, VV.ptr (.own (15) 0)), (6, VV.bool false), (5, VV.ptr (.own (15) 0)), (0, VV.agg (I y :: I (↑S : Int) :: nL a)), (1, VV.ptr (.own 4 0)), (2, VV.ptr (.own 12 0)), (3, VV.ptr (.own 1 0)), (4, VV.ptr (.own 14 0))] (VH.mk 16 (nsF4.zip (BF4 l t [D0, D1, D2, D3] Y y (↑S : Int) a M_1 es_1))) (dsF4.zip (VF4 y (↑S : Int) a (↑S : Int))) /\ (y = (↑Y : Int) - (↑(k + 1) : Int) /\ Cfg l t [D0, D1, D2, D3] Y /\ PreF l t [D0, D1, D2, D3] Y (k + 1) S a es_1) /\ (∀ (s : St), PostF l t [D0, D1, D2, D3] Y (k + 1) S a M_1 true s -> Q (.ret (.bool true)) (VH.mk 16 [(0, VB.cells [VV.tl t.T.length 1 (dG t.T), I t.far, I t.least] 25), (1, VB.cells [VV.tl [D0, D1, D2, D3].length 1 (pthG [D0, D1, D2, D3])] 26), (2, VB.cells (stD l :: tsL t) 74), (3, VB.cells [VV.ptr (.own 2 0)] 72), (4, VB.cells [I (↑Y : Int)] 3), (5, VB.cells [sFa 7 Y, sFa 8 Y, sFa 9 Y, sFa 10 Y] 76), (6, VB.cells [VV.slice (.own 5 0) 4 4] 75), (7, VB.fam [] (Y * 6) (s.M 0) 80), (8, VB.fam [] (Y * 6) (s.M 1) 80), (9, VB.fam [] (Y * 6) (s.M 2) 80), (10, VB.fam [] (Y * 6) (s.M 3) 80), (11, VB.map kS PK.bool s.es), (12, VB.cells [VV.mp 11] 77), z2, z3, (15, VB.fam [I y, I (↑S : Int)] 6 (fun (k : Nat) => (ch a).getD k (0 : Int)) 82)])) /\ ∀ (s : St) (r : Int), PostF l t [D0, D1, D2, D3] Y (k + 1) S a M_1 false s -> Q (.ret (.bool false)) (VH.mk 16 [(0, VB.cells [VV.tl t.T.length 1 (dG t.T), I t.far, I t.least] 25), (1, VB.cells [VV.tl [D0, D1, D2, D3].length 1 (pthG [D0, D1, D2, D3])] 26), (2, VB.cells (stD l :: tsL t) 74), (3, VB.cells [VV.ptr (.own 2 0)] 72), (4, VB.cells [I (↑Y : Int)] 3), (5, VB.cells [sFa 7 Y, sFa 8 Y, sFa 9 Y, sFa 10 Y] 76), (6, VB.cells [VV.slice (.own 5 0) 4 4] 75), (7, VB.fam [] (Y * 6) (s.M 0) 80), (8, VB.fam [] (Y * 6) (s.M 1) 80), (9, VB.fam [] (Y * 6) (s.M 2) 80), (10, VB.fam [] (Y * 6) (s.M 3) 80), (11, VB.map kS PK.bool s.es), (12, VB.cells [VV.mp 11] 77), z2, z3, (15, VB.fam [I y, I (↑S : Int)] 6 (fun (k : Nat) => (ch a).getD k (0 : Int)) 82)]))) := by kernel_rfl
theorem fiz4_ev (l : List Stk) (t : Tst) (D0 D1 D2 D3 : List Int) (Y : Nat) (M : Mde) (es : Lst) (y : Int) (S : Nat) (a : Nat -> Int) (Q : VRes -> VH -> Prop) : callN Try.prog noSpec (atF 44 [(0, lZ)]) 10 20 0 (.fn 44) [.agg (I y :: I S :: nL a), .ptr (.own 4 0), .ptr (.own 12 0), .ptr (.own 1 0), .ptr (.own 14 0)] ⟨15, nsB4.zip (BP4 l t [D0, D1, D2, D3] Y M es)⟩ (fun r h => Q r h) =
 (bif decide (y = (↑Y : Int)) then
 Q (.ret (.bool true)) (VH.mk (16) [(15, VB.fam [I y, I (↑S : Int)] (6) (f6 a) 82), (0, VB.cells [VV.tl t.T.length 1 (dG t.T), I t.far, I t.least] 25), (1, VB.cells [VV.tl [D0, D1, D2, D3].length 1 (pthG [D0, D1, D2, D3])] 26), (2, VB.cells (stD l :: tsL t) 74), (3, VB.cells [VV.ptr (.own 2 0)] 72), (4, VB.cells [I (↑Y : Int)] 3), (5, VB.cells [sFa 7 Y, sFa 8 Y, sFa 9 Y, sFa 10 Y] 76), (6, VB.cells [VV.slice (.own 5 0) 4 4] 75), (7, VB.fam [] (Y * 6) (M 0) 80), (8, VB.fam [] (Y * 6) (M 1) 80), (9, VB.fam [] (Y * 6) (M 2) 80), (10, VB.fam [] (Y * 6) (M 3) 80), (11, VB.map kS PK.bool es), (12, VB.cells [VV.mp 11] 77), (13, VB.cells [VV.func 44 [] [VV.ptr (.own 4 0), VV.ptr (.own 12 0), VV.ptr (.own 1 0), VV.ptr (.own 14 0)]] 78), (14, VB.cells [VV.func 40 [] [VV.ptr (.own 3 0), VV.ptr (.own 13 0), VV.ptr (.own 1 0), VV.ptr (.own 6 0)]] 88)])
 else KeyLaw Try.prog 82 kS /\ bif decide (valOf es [y, (↑S : Int), (f6 a) (0 + 0), (f6 a) (0 + 1), (f6 a) (0 + 2), (f6 a) (0 + 3), (f6 a) (0 + 4), (f6 a) (0 + 5)] = (1 : Int)) then
 Q (.ret (.bool false)) (VH.mk (16) [(15, VB.fam [I y, I (↑S : Int)] (6) (f6 a) 82), (0, VB.cells [VV.tl t.T.length 1 (dG t.T), I t.far, I t.least] 25), (1, VB.cells [VV.tl [D0, D1, D2, D3].length 1 (pthG [D0, D1, D2, D3])] 26), (2, VB.cells (stD l :: tsL t) 74), (3, VB.cells [VV.ptr (.own 2 0)] 72), (4, VB.cells [I (↑Y : Int)] 3), (5, VB.cells [sFa 7 Y, sFa 8 Y, sFa 9 Y, sFa 10 Y] 76), (6, VB.cells [VV.slice (.own 5 0) 4 4] 75), (7, VB.fam [] (Y * 6) (M 0) 80), (8, VB.fam [] (Y * 6) (M 1) 80), (9, VB.fam [] (Y * 6) (M 2) 80), (10, VB.fam [] (Y * 6) (M 3) 80), (11, VB.map kS PK.bool es), (12, VB.cells [VV.mp 11] 77), (13, VB.cells [VV.func 44 [] [VV.ptr (.own 4 0), VV.ptr (.own 12 0), VV.ptr (.own 1 0), VV.ptr (.own 14 0)]] 78), (14, VB.cells [VV.func 40 [] [VV.ptr (.own 3 0), VV.ptr (.own 13 0), VV.ptr (.own 1 0), VV.ptr (.own 6 0)]] 88)])
 else False) := by kernel_rfl
section
variable {l : List Stk} {t : Tst} {P : List (List Int)} {Y k : Nat} {y S d : Int} {own : Int} {a : Nat -> Int}
noncomputable def OJ4 (l : List Stk) (t : Tst) (P : List (List Int)) (Y : Nat) (y S own d : Int) (a : Nat -> Int) (s : (Mde × Lst) × Nat × (Nat -> Int)) (e : VEx) (vs : List VV) (bs : List VB) : Prop :=
 e = .exit 2 /\ vs = VFi4 ((scanC a s.2.1 s.2.2).1 - 1) /\ bs = BFo4 l t P Y y S own d a s.1.1 s.1.2 (scanC a s.2.1 s.2.2).2
theorem lIo4_ok : LSound Try.prog true (.block 2 (.loop (loopB 2 (bodyOf Try.prog 74)))) (ntOf Try.prog 74) (lIo4 l t P Y y S own d a) := by
 by_cases hn : l.length <= 6
 ·refine loop_row hmix good0 (un := 10) (ds := dsI) (ns := nsFo4) (nx := 24) (fun s : (Mde × Lst) × Nat × (Nat -> Int) => VFi4 (s.2.1 - 1)) (fun s => BFo4 l t P Y y S own d a s.1.1 s.1.2 s.2.2) (fun s => s.2.1 <= l.length) (fun s => s.2.1) (OJ4 l t P Y y S own d a) noL_ok ?_ ?_
  ·rintro ⟨⟨M, es⟩, k, n⟩ h0
   dsimp only at h0 ⊢
   refine cast (ino4_ev l t P Y y S own d (k - 1) a M es n _).symm ?_
   cases k with
   | zero => exact cond_d (fun h => by omega) (fun _ => ⟨rfl, rfl, rfl⟩)
   | succ k =>
    have e : (((k + 1 : Nat) : Int) - 1) = (k : Int) := by omega
    rw [e]
    have e2 : (k : Int).toNat * 1 = k := by omega
    rw [e2, show (fun k => (ch a).getD k (0 : Int)) k = a k from ch_get (by omega)]
    refine cond_d (fun _ => ?_) (fun h => by omega)
    refine cond_dk ⟨by omega, by omega⟩ (cond_dk (by omega) (cond_dk ⟨by omega, by omega⟩ (cond_dk (by omega) (cond_d (fun g => cond_dk ⟨by omega, by omega⟩ (cond_dk (by omega) (cond_r (by omega) ?_))) (fun g => ?_)))))
    ·refine ⟨((M, es), k, setC n k 0), ?_, ?_, rfl, fitBs_refl _, fun e vs bs he => ?_⟩
     ·show k <= _; omega
     ·show k < k + 1; omega
     ·have hs : scanC a (k + 1) n = scanC a k (setC n k 0) := by
       show (if _ then _ else _) = _
       rw [if_pos g]
      obtain ⟨h1, h2, h3⟩ := he
      refine ⟨h1, ?_, ?_⟩
      ·rw [h2]; dsimp only; rw [hs]
      ·rw [h3]; dsimp only; rw [hs]
    ·have hs : scanC a (k + 1) n = (k + 1, n) := by
      show (if _ then _ else _) = _
      rw [if_neg g]
     refine ⟨rfl, ?_, ?_⟩
     ·dsimp only; rw [hs]; dsimp only; rw [e]; rfl
     ·dsimp only; rw [hs]
  ·rintro lock tt h K ⟨M, es, n, hf, _, k1⟩
   refine ⟨((M, es), l.length, n), hf, Nat.le_refl _, ?_⟩
   rintro e vs bs ⟨rfl, rfl, rfl⟩
   exact k1 _ _ rfl
 ·rintro lock tt h K ⟨M, es, n, hf, hc, _⟩
  exact (hn hc).elim
theorem lG4_ok {r : Nat} : LSound Try.prog true (.block 2 (.loop (loopB 2 (bodyOf Try.prog 44)))) (ntOf Try.prog 44) (lG4 l t P Y k y S a r) := by
 by_cases hh : y = ((Y - (k + 1) : Nat) : Int) /\ k + 1 <= Y /\ Cfg l t P Y /\ r < 16
 ·obtain ⟨hy, hk, cf, hr⟩ := hh
  have hp4 := cf.P4
  refine loop_row hmix good0 (un := 10) (ds := dsG4) (ns := nsF4) (nx := 16) (fun s : (Mde × Lst) × Nat => VG4 P y S a r s.2 (grpF P (Y - (k + 1)) r s.2).2 (grpF P (Y - (k + 1)) r s.2).1) (fun s => BF4 l t P Y y S a s.1.1 s.1.2) (fun s => s.2 <= P.length) (fun s => P.length - s.2)
   (fun s e vs bs => e = .exit 2 /\ vs = VG4 P y S a r P.length (grpF P (Y - (k + 1)) r P.length).2 (grpF P (Y - (k + 1)) r P.length).1 /\ bs = BF4 l t P Y y S a s.1.1 s.1.2) noL_ok ?_ ?_
  ·rintro ⟨⟨M, es⟩, i⟩ h0
   dsimp only at h0 ⊢
   refine cast (gi4_ev l t P Y M es y S i _ _ r a _).symm ?_
   have hgb := grpF_le cf.nd (Y - (k + 1)) r i
   have hs : grpF P (Y - (k + 1)) r (i + 1) = if r.testBit i /\ ((grpF P (Y - (k + 1)) r i).2 < 0 ∨ (P.getD i []).getD (Y - (k + 1)) 0 = (grpF P (Y - (k + 1)) r i).2) then ((grpF P (Y - (k + 1)) r i).1 ||| 2 ^ i, (P.getD i []).getD (Y - (k + 1)) 0) else grpF P (Y - (k + 1)) r i := rfl
   have h16 : (grpF P (Y - (k + 1)) r i).1 < 16 := Nat.lt_of_lt_of_le hgb (Nat.pow_le_pow_right (n := 2) (by omega) (show i <= 4 by omega))
   generalize hRQ : RoundQ (σ := (Mde × Lst) × Nat) _ _ _ _ _ ((M, es), i) = RQ
   have fin : ∀ (o' : Nat) (d' : Int), grpF P (Y - (k + 1)) r (i + 1) = (o', d') -> i < P.length -> RQ .normal (VG4 P y S a r ((i : Int) + 1) d' o') (BF4 l t P Y y S a M es) := by
    intro o' d' he hlt
    rw [<- hRQ]
    refine ⟨((M, es), i + 1), ?_, ?_, ?_, fitBs_refl _, fun _ _ _ h => h⟩
    ·show i + 1 <= _; omega
    ·show P.length - (i + 1) < P.length - i; omega
    ·dsimp only; rw [he]; rfl
   generalize hg : grpF P (Y - (k + 1)) r i = g at hs h16 ⊢
   obtain ⟨o, dd⟩ := g
   dsimp only at hs h16 ⊢
   by_cases hlt : i < P.length
   ·have hidx : (0 : Int) <= y /\ y < ((P.getD i []).length : Nat) := by rw [cf.len i hlt]; omega
    have hi4 : i < 4 := by omega
    have hpow : (1 : Int) * (2 : Int) ^ min i IntKind.i64.bits <= 8 /\ 0 <= (1 : Int) * (2 : Int) ^ min i IntKind.i64.bits := by
     match i, hi4 with
     | 0, _ => exact ⟨by decide, by decide⟩
     | 1, _ => exact ⟨by decide, by decide⟩
     | 2, _ => exact ⟨by decide, by decide⟩
     | 3, _ => exact ⟨by decide, by decide⟩
    have ey : y.toNat = Y - (k + 1) := by omega
    refine cond_dk (by omega) (cond_dk ⟨by omega, by omega⟩ (cond_d (fun h => by omega) (fun _ => ?_)))
    rw [show (i : Int).toNat = i by omega, ey, or_v o h16 i hi4]
    refine cond_d (fun b => ?_) (fun b => ?_)
    ·have b := (bit_v r hr i hi4).1 b
     refine cond_d (fun g1 => cond_d (fun h => by omega) (fun _ => cond_r (by omega) (cond_dk hidx (cond_r (by omega) (fin _ _ ?_ hlt))))) (fun g1 => cond_dk hidx (cond_d (fun g2 => cond_d (fun h => by omega) (fun _ => cond_r (by omega) (cond_dk hidx (cond_r (by omega) (fin _ _ ?_ hlt))))) (fun g2 => cond_r (by omega) (fin _ _ ?_ hlt))))
     ·rw [hs, if_pos ⟨b, .inl g1⟩]
     ·rw [hs, if_pos ⟨b, .inr g2⟩]
     ·rw [hs, if_neg (fun h => h.2.elim g1 g2)]
    ·have b : ¬ r.testBit i = true := fun h => b ((bit_v r hr i hi4).2 h)
     refine cond_r (by omega) (fin _ _ ?_ hlt)
     rw [hs, if_neg (fun h => b h.1)]
   ·obtain rfl : i = P.length := by omega
    refine cond_d (fun h => by omega) (fun _ => ?_)
    rw [<- hRQ]
    refine ⟨rfl, ?_, rfl⟩
    rw [hg]; rfl
  ·rintro lock tt h K ⟨M, es, hf, _, k1⟩
   refine ⟨((M, es), 0), hf, Nat.zero_le _, ?_⟩
   rintro e vs bs ⟨rfl, rfl, rfl⟩
   exact k1 _ _ rfl
 ·rintro lock tt h K ⟨M, es, hf, hc, _⟩
  exact (hh hc).elim
end
section
variable {l : List Stk} {t : Tst} {D0 D1 D2 D3 : List Int} {Y k : Nat}
theorem hc64 {h : VH} (h6 : (h.at 2).cs? = some (stD l :: tsL t, 74)) : isD h 4 (.ptr (.own 2 0)) (.tp (stD l :: tsL t)) := ⟨_, _, h6, isD_l, ⟨rfl, rfl, fun _ _ => rfl⟩, ⟨rfl, rfl⟩, ⟨rfl, rfl⟩, trivial⟩
structure WS4 where
 M0 : Mde
 j : Nat
 M : Mde
 es : Lst
noncomputable def OW4 (l : List Stk) (t : Tst) (P : List (List Int)) (Y k : Nat) (y S d : Int) (O : Nat) (a : Nat -> Int) (s : WS4) (e : VEx) (vs : List VV) (bs : List VB) : Prop :=
 e = .ret /\ vs = VFo4 /\ ∃ st n', (PostW l t P Y k O d a s.M0 false st /\ bs = BFo4 l t P Y y S O d a st.M st.es n') ∨ (PostW l t P Y k O d a s.M0 true st /\ bs = BFoT4 l t P Y y S O d a st.M st.es n')
theorem lFo4_ok (hfind : SpOk Try.prog (findR4 l t [D0, D1, D2, D3] Y k).1 (findR4 l t [D0, D1, D2, D3] Y k).2) {y S d : Int} {O : Nat} {a : Nat -> Int} : LSound Try.prog true (.block 0 (.loop (loopB 0 (bodyOf Try.prog 74)))) (ntOf Try.prog 74) (lFo4 l t [D0, D1, D2, D3] Y k y S d O a) := by
 by_cases hh : y = (Y : Int) - (k + 1 : Nat) /\ Cfg l t [D0, D1, D2, D3] Y /\ k + 1 <= Y /\ O < 2 ^ [D0, D1, D2, D3].length /\ leftB l a
 ·obtain ⟨hy, cf, hk, hO, ha⟩ := hh
  have hl6 := cf.hl.1
  have hY4 := cf.Y4
  have hm0 : ∀ i, i < l.length -> 0 <= a i := fun i hi => (ha.1 i hi).1
  have hO16 : O < 16 := Nat.lt_of_lt_of_le hO (Nat.pow_le_pow_right (n := 2) (by omega) (show 4 <= 4 by omega))
  have htab : ∀ f T, tabS [meetsR l t, lessT, findR4 l t [D0, D1, D2, D3] Y k] f = some T -> SpOk Try.prog f T := tab_ok _ (fun x hx => by
   simp only [List.mem_cons, List.not_mem_nil, or_false] at hx
   rcases hx with rfl | rfl | rfl
   ·exact meetsR_ok l t
   ·exact lessT_ok
   ·exact hfind)
  refine loop_row hmix (noL_good htab) (lsp := tabB [(2, lIo4 l t [D0, D1, D2, D3] Y y S O d a)]) (un := 10) (ds := dsC) (ns := nsFo4) (nx := 23) (fun _ : WS4 => VFo4) (fun s => BFo4 l t [D0, D1, D2, D3] Y y S O d a s.M s.es (chAt a l.length s.j))
   (fun s => s.j < (allC a l.length).length /\ LostOk l t [D0, D1, D2, D3] Y s.es /\ Same Y (k + 1) O s.M0 s.M /\ ∀ i, i < s.j -> meetsF l t (chAt a l.length i) y d = true -> planF l t [D0, D1, D2, D3] Y k O (lsF a (chAt a l.length i) 6) = none) (fun s => (allC a l.length).length - s.j) (OW4 l t [D0, D1, D2, D3] Y k y S d O a) (lsp_one (by kernel_rfl) lIo4_ok) ?_ ?_
  ·rintro ⟨M0, j, M, es⟩ ⟨hj, hlost, hsame, hbad⟩
   dsimp only at hj hlost hsame hbad
   refine cast (fr4_ev l t D0 D1 D2 D3 Y k M es y S d O a _ _).symm ?_
   have hcm := chAt_mem (most := a) (k := l.length) hj
   obtain ⟨hleft, hbd, hnc⟩ := left_less ha hcm hl6
   have hnx := scan_nxt (most := a) l.length (chAt a l.length j)
   have hnext := chAt_next hm0 hj
   have hsucc : ∀ x, meetsF l t (chAt a l.length j) y d = true -> planF l t [D0, D1, D2, D3] Y k O (lsF a (chAt a l.length j) 6) = some x -> folF l t [D0, D1, D2, D3] Y k a O d = some (chAt a l.length j, x) := fun x g1 g2 => by
    refine tryF_some (c0 := fun _ => 0) hj (fun i hi hm => hbad i hi ?_) ?_ g2
    ·rw [hy]; exact hm
    ·show meetsF l t (chAt a l.length j) _ d = true
     rw [<- hy]; exact g1
   generalize hRQ : RoundQ (σ := WS4) _ _ _ _ _ ⟨M0, j, M, es⟩ = RQ
   generalize hcj : chAt a l.length j = c at hcm hleft hbd hnc hnx hnext hsucc ⊢
   have fin : ∀ (M' : Mde) (es' : Lst), LostOk l t [D0, D1, D2, D3] Y es' -> Same Y (k + 1) O M0 M' -> (meetsF l t c y d = true -> planF l t [D0, D1, D2, D3] Y k O (lsF a c 6) = none) -> ∀ (k2 : Nat) (n' : Nat -> Int), scanC a l.length c = (k2, n') ->
    (bif decide ((k2 : Int) - 1 < 0) then RQ .ret VFo4 (BFo4 l t [D0, D1, D2, D3] Y y S O d a M' es' n')
    else bif decide (0 <= (k2 : Int) - 1 /\ (k2 : Int) - 1 < (6 : Nat)) then (bif decide (((k2 : Int) - 1).toNat * 1 < 6) then (bif inK .i64 (n' (((k2 : Int) - 1).toNat * 1) + 1) then (bif decide (0 <= (k2 : Int) - 1 /\ (k2 : Int) - 1 < (6 : Nat)) then (bif decide (((k2 : Int) - 1).toNat * 1 + 1 <= 6) then
     RQ .normal VFo4 (BFo4 l t [D0, D1, D2, D3] Y y S O d a M' es' (setF n' (((k2 : Int) - 1).toNat * 1) [n' (((k2 : Int) - 1).toNat * 1) + 1])) else False) else False) else False) else False) else False) := by
    intro M' es' hl' hs' hno k2 n' hk2
    have hbad' : ∀ i, i < j + 1 -> meetsF l t (chAt a l.length i) y d = true -> planF l t [D0, D1, D2, D3] Y k O (lsF a (chAt a l.length i) 6) = none := fun i hi hm => by
     by_cases e : i = j
     ·subst e; rw [hcj] at hm ⊢; exact hno hm
     ·exact hbad i (by omega) hm
    rw [hk2] at hnx
    obtain ⟨hk1, hnx⟩ := hnx
    dsimp only at hk1
    cases k2 with
    | zero =>
     dsimp only at hnx
     have hj1 : j + 1 = (allC a l.length).length := by
      rcases hnext with ⟨h1, _⟩ | ⟨_, h2⟩
      ·exact h1
      ·rw [hnx] at h2; cases h2
     refine cond_d (fun _ => ?_) (fun h => by omega)
     rw [<- hRQ]
     refine ⟨rfl, rfl, ⟨M', es'⟩, n', .inl ⟨?_, rfl⟩⟩
     have hf : folF l t [D0, D1, D2, D3] Y k a O d = none := tryF_none (fun c' hc' hm' => by
      obtain ⟨i, hi, rfl⟩ := List.getElem_of_mem hc'
      have e : chAt a l.length i = (allC a l.length)[i] := by
       unfold chAt
       rw [List.getD_eq_getElem?_getD, List.getElem?_eq_getElem hi]; rfl
      rw [<- e]
      refine hbad' i (by omega) ?_
      rw [e, hy]; exact hm')
     exact ⟨by rw [hf]; rfl, hl', hs', fun c' x' he => by rw [hf] at he; cases he⟩
    | succ k2 =>
     dsimp only at hnx
     have e : (((k2 + 1 : Nat) : Int) - 1) = (k2 : Int) := by omega
     rw [e]
     have e2 : (k2 : Int).toNat * 1 = k2 := by omega
     rw [e2]
     obtain ⟨hj1, hch⟩ : j + 1 < (allC a l.length).length /\ chAt a l.length (j + 1) = setC n' k2 (n' k2 + 1) := by
      rcases hnext with ⟨_, h2⟩ | ⟨h1, h2⟩
      ·rw [hnx] at h2; cases h2
      ·rw [hnx] at h2
       injection h2 with h2
       exact ⟨h1, h2.symm⟩
     have hb6 := (left_less ha (chAt_mem hj1) hl6).2.2 k2 (by omega)
     rw [hch, setC_same] at hb6
     refine cond_d (fun h => by omega) (fun _ => cond_dk ⟨by omega, by omega⟩ (cond_dk (by omega) (cond_r (by omega) (cond_dk ⟨by omega, by omega⟩ (cond_dk (by omega) ?_)))))
     rw [<- hRQ]
     refine ⟨⟨M0, j + 1, M', es'⟩, ⟨hj1, hl', hs', hbad'⟩, ?_, rfl, ?_, fun _ _ _ h => h⟩
     ·show (allC a l.length).length - (j + 1) < (allC a l.length).length - j
      omega
     ·dsimp only
      rw [hch]
      exact fitBs_refl _
   have hir : -9223372036854775808 <= (l.length : Int) - 1 /\ (l.length : Int) - 1 <= 9223372036854775807 := by omega
   have hF : ∀ (M' : Mde) (es' : Lst) (h : VH) (tt : Slots), h.nx = 24 -> fitB (nsFo4.zip (BFo4 l t [D0, D1, D2, D3] Y y S O d a M' es' c)) h -> fitS (dsI.zip (VFi4 (l.length - 1))) tt -> FitP 0 h tt ⟨24, nsFo4.zip (BFo4 l t [D0, D1, D2, D3] Y y S O d a M' es' c)⟩ (dsI.zip (VFi4 (l.length - 1))) := fun _ _ _ _ h1 h2 h3 => ⟨⟨rfl, h1, h2⟩, h3⟩
   refine ⟨c, hc64 rfl, rfl, ⟨⟨hnc, cf.hl, cf.hp, cf.ht⟩, by omega, by omega⟩, cond_i (fun g => ?_) (fun g => ?_)⟩
   ·have g : meetsF l t c y d = false := by simpa using g
    refine cond_r hir ⟨M, es, c, hF M es _ _ rfl ?_ ?_, hl6, fin M es hlost hsame (fun h => by rw [g] at h; cases h)⟩
    ·exact (by repeat (first | exact trivial | refine ⟨VB.fit_refl _, ?_⟩))
    ·exact ⟨rfl, rfl, rfl, rfl, rfl, trivial⟩
   ·have g : meetsF l t c y d = true := by simpa using g
    refine cond_r (by omega) ⟨a, c, rfl, rfl, hbd, O, lsF a c 6, M, es, ⟨rfl, rfl, rfl, rfl⟩, ⟨rfl, by omega⟩, ⟨rfl, rfl, rfl, rfl, rfl, rfl, rfl, rfl, rfl, rfl, rfl, rfl, rfl, rfl, rfl, trivial⟩, ⟨by omega, rfl, rfl⟩, ⟨by omega, hO, hleft, hlost⟩, ?_⟩
    rintro b s ⟨p1, p2, p3, p4⟩
    refine cond_i (fun g2 => ?_) (fun g2 => ?_)
    ·have g2 : b = false := by simpa using g2
     refine cond_r hir ⟨s.M, s.es, c, hF s.M s.es _ _ rfl ?_ ?_, hl6, fin s.M s.es p2 (hsame.trans p3.later) (fun _ => ?_)⟩
     ·exact (by repeat (first | exact trivial | refine ⟨VB.fit_refl _, ?_⟩))
     ·exact ⟨rfl, rfl, rfl, rfl, rfl, trivial⟩
     ·rw [g2] at p1
      cases hx : planF l t [D0, D1, D2, D3] Y k O (lsF a c 6) with
      | none => rfl
      | some x => rw [hx] at p1; cases p1
    ·have g2 : b = true := by simpa using g2
     subst g2
     obtain ⟨x, hx⟩ : ∃ x, planF l t [D0, D1, D2, D3] Y k O (lsF a c 6) = some x := by
      cases hx : planF l t [D0, D1, D2, D3] Y k O (lsF a c 6) with
      | none => rw [hx] at p1; cases p1
      | some x => exact ⟨x, rfl⟩
     have hyY : (0 : Int) <= y /\ y < (Y : Int) := ⟨by omega, by omega⟩
     have hyY6 : 0 + y.toNat * 6 + 6 <= Y * 6 := by omega
     have fin2 : ∀ M2 : Mde, (∀ i, i < [D0, D1, D2, D3].length -> M2 i = if O.testBit i = true then wrM (s.M i) y c else s.M i) -> (∀ i, [D0, D1, D2, D3].length <= i -> M2 i = s.M i) -> ∀ bs, bs = BFoT4 l t [D0, D1, D2, D3] Y y S O d a M2 s.es c -> RQ .ret VFo4 bs := by
      rintro M2 h2 h3 bs rfl
      rw [<- hRQ]
      exact ⟨rfl, rfl, ⟨M2, s.es⟩, c, .inr ⟨postW_true hk hO (by omega) (hsucc x g hx) hx hsame ⟨p1, p2, p3, p4⟩ h2 h3, rfl⟩⟩
     have fin3 : ∀ {m0 m1 m2 m3 : Nat -> Int}, (m0 = if O.testBit 0 = true then wrM (s.M 0) y c else s.M 0) -> (m1 = if O.testBit 1 = true then wrM (s.M 1) y c else s.M 1) -> (m2 = if O.testBit 2 = true then wrM (s.M 2) y c else s.M 2) -> (m3 = if O.testBit 3 = true then wrM (s.M 3) y c else s.M 3) -> RQ .ret VFo4 (BFoT4 l t [D0, D1, D2, D3] Y y S O d a (fun i => if i = 0 then m0 else if i = 1 then m1 else if i = 2 then m2 else if i = 3 then m3 else s.M i) s.es c) := fun h0 h1 h2 h3 => fin2 _ (fun i hi => by
      match i, hi with
      | 0, _ => exact h0
      | 1, _ => exact h1
      | 2, _ => exact h2
      | 3, _ => exact h3
      | _ + 4, hi => exact absurd hi (by show ¬ _ + 4 < 4; omega)) (fun i hi => by
      have hi : 4 <= i := hi
      rw [if_neg (show ¬ i = 0 by omega), if_neg (show ¬ i = 1 by omega), if_neg (show ¬ i = 2 by omega), if_neg (show ¬ i = 3 by omega)]) _ rfl
     refine cond_d (fun b0 => cond_dk hyY (cond_dk hyY6 ?_)) (fun b0 => ?_)
     ·have b0 : O.testBit 0 = true := (bit_v O hO16 0 (by omega)).1 b0
      refine cond_d (fun b1 => cond_dk hyY (cond_dk hyY6 ?_)) (fun b1 => ?_)
      ·have b1 : O.testBit 1 = true := (bit_v O hO16 1 (by omega)).1 b1
       refine cond_d (fun b2 => cond_dk hyY (cond_dk hyY6 ?_)) (fun b2 => ?_)
       ·have b2 : O.testBit 2 = true := (bit_v O hO16 2 (by omega)).1 b2
        refine cond_d (fun b3 => cond_dk hyY (cond_dk hyY6 ?_)) (fun b3 => ?_)
        ·have b3 : O.testBit 3 = true := (bit_v O hO16 3 (by omega)).1 b3
         exact fin3 (if_pos b0).symm (if_pos b1).symm (if_pos b2).symm (if_pos b3).symm
        ·have b3 : ¬ O.testBit 3 = true := fun h => b3 ((bit_v O hO16 3 (by omega)).2 h)
         exact fin3 (if_pos b0).symm (if_pos b1).symm (if_pos b2).symm (if_neg b3).symm
       ·have b2 : ¬ O.testBit 2 = true := fun h => b2 ((bit_v O hO16 2 (by omega)).2 h)
        refine cond_d (fun b3 => cond_dk hyY (cond_dk hyY6 ?_)) (fun b3 => ?_)
        ·have b3 : O.testBit 3 = true := (bit_v O hO16 3 (by omega)).1 b3
         exact fin3 (if_pos b0).symm (if_pos b1).symm (if_neg b2).symm (if_pos b3).symm
        ·have b3 : ¬ O.testBit 3 = true := fun h => b3 ((bit_v O hO16 3 (by omega)).2 h)
         exact fin3 (if_pos b0).symm (if_pos b1).symm (if_neg b2).symm (if_neg b3).symm
      ·have b1 : ¬ O.testBit 1 = true := fun h => b1 ((bit_v O hO16 1 (by omega)).2 h)
       refine cond_d (fun b2 => cond_dk hyY (cond_dk hyY6 ?_)) (fun b2 => ?_)
       ·have b2 : O.testBit 2 = true := (bit_v O hO16 2 (by omega)).1 b2
        refine cond_d (fun b3 => cond_dk hyY (cond_dk hyY6 ?_)) (fun b3 => ?_)
        ·have b3 : O.testBit 3 = true := (bit_v O hO16 3 (by omega)).1 b3
         exact fin3 (if_pos b0).symm (if_neg b1).symm (if_pos b2).symm (if_pos b3).symm
        ·have b3 : ¬ O.testBit 3 = true := fun h => b3 ((bit_v O hO16 3 (by omega)).2 h)
         exact fin3 (if_pos b0).symm (if_neg b1).symm (if_pos b2).symm (if_neg b3).symm
       ·have b2 : ¬ O.testBit 2 = true := fun h => b2 ((bit_v O hO16 2 (by omega)).2 h)
        refine cond_d (fun b3 => cond_dk hyY (cond_dk hyY6 ?_)) (fun b3 => ?_)
        ·have b3 : O.testBit 3 = true := (bit_v O hO16 3 (by omega)).1 b3
         exact fin3 (if_pos b0).symm (if_neg b1).symm (if_neg b2).symm (if_pos b3).symm
        ·have b3 : ¬ O.testBit 3 = true := fun h => b3 ((bit_v O hO16 3 (by omega)).2 h)
         exact fin3 (if_pos b0).symm (if_neg b1).symm (if_neg b2).symm (if_neg b3).symm
     ·have b0 : ¬ O.testBit 0 = true := fun h => b0 ((bit_v O hO16 0 (by omega)).2 h)
      refine cond_d (fun b1 => cond_dk hyY (cond_dk hyY6 ?_)) (fun b1 => ?_)
      ·have b1 : O.testBit 1 = true := (bit_v O hO16 1 (by omega)).1 b1
       refine cond_d (fun b2 => cond_dk hyY (cond_dk hyY6 ?_)) (fun b2 => ?_)
       ·have b2 : O.testBit 2 = true := (bit_v O hO16 2 (by omega)).1 b2
        refine cond_d (fun b3 => cond_dk hyY (cond_dk hyY6 ?_)) (fun b3 => ?_)
        ·have b3 : O.testBit 3 = true := (bit_v O hO16 3 (by omega)).1 b3
         exact fin3 (if_neg b0).symm (if_pos b1).symm (if_pos b2).symm (if_pos b3).symm
        ·have b3 : ¬ O.testBit 3 = true := fun h => b3 ((bit_v O hO16 3 (by omega)).2 h)
         exact fin3 (if_neg b0).symm (if_pos b1).symm (if_pos b2).symm (if_neg b3).symm
       ·have b2 : ¬ O.testBit 2 = true := fun h => b2 ((bit_v O hO16 2 (by omega)).2 h)
        refine cond_d (fun b3 => cond_dk hyY (cond_dk hyY6 ?_)) (fun b3 => ?_)
        ·have b3 : O.testBit 3 = true := (bit_v O hO16 3 (by omega)).1 b3
         exact fin3 (if_neg b0).symm (if_pos b1).symm (if_neg b2).symm (if_pos b3).symm
        ·have b3 : ¬ O.testBit 3 = true := fun h => b3 ((bit_v O hO16 3 (by omega)).2 h)
         exact fin3 (if_neg b0).symm (if_pos b1).symm (if_neg b2).symm (if_neg b3).symm
      ·have b1 : ¬ O.testBit 1 = true := fun h => b1 ((bit_v O hO16 1 (by omega)).2 h)
       refine cond_d (fun b2 => cond_dk hyY (cond_dk hyY6 ?_)) (fun b2 => ?_)
       ·have b2 : O.testBit 2 = true := (bit_v O hO16 2 (by omega)).1 b2
        refine cond_d (fun b3 => cond_dk hyY (cond_dk hyY6 ?_)) (fun b3 => ?_)
        ·have b3 : O.testBit 3 = true := (bit_v O hO16 3 (by omega)).1 b3
         exact fin3 (if_neg b0).symm (if_neg b1).symm (if_pos b2).symm (if_pos b3).symm
        ·have b3 : ¬ O.testBit 3 = true := fun h => b3 ((bit_v O hO16 3 (by omega)).2 h)
         exact fin3 (if_neg b0).symm (if_neg b1).symm (if_pos b2).symm (if_neg b3).symm
       ·have b2 : ¬ O.testBit 2 = true := fun h => b2 ((bit_v O hO16 2 (by omega)).2 h)
        refine cond_d (fun b3 => cond_dk hyY (cond_dk hyY6 ?_)) (fun b3 => ?_)
        ·have b3 : O.testBit 3 = true := (bit_v O hO16 3 (by omega)).1 b3
         exact fin3 (if_neg b0).symm (if_neg b1).symm (if_neg b2).symm (if_pos b3).symm
        ·have b3 : ¬ O.testBit 3 = true := fun h => b3 ((bit_v O hO16 3 (by omega)).2 h)
         exact fin3 (if_neg b0).symm (if_neg b1).symm (if_neg b2).symm (if_neg b3).symm
  ·rintro lock tt h K ⟨M, es, hf, ⟨_, _, hpw⟩, k1, k2⟩
   refine ⟨⟨M, 0, M, es⟩, ?_, ⟨all_pos hm0, hpw.2.2.2, Same.refl _ _ _ _, fun i hi => absurd hi (Nat.not_lt_zero i)⟩, ?_⟩
   ·dsimp only
    rw [chAt_zero hm0]; exact hf
   ·rintro e vs bs ⟨rfl, rfl, st, n', ⟨hp, rfl⟩ | ⟨hp, rfl⟩⟩
    ·exact k1 st n' hp
    ·exact k2 st n' hp
 ·rintro lock tt h K ⟨M, es, hf, ⟨h1, h2, h3⟩, _⟩
  exact (hh ⟨h1, h2, h3.1, h3.2.1, h3.2.2.1⟩).elim
end
section
variable {l : List Stk} {t : Tst} {D0 D1 D2 D3 : List Int} {Y k : Nat}
theorem lift4 {f : FuncId} {args : List VV} {b : Bool} {s : St} {M : Mde} {es : Lst} {nx : Nat} {bs : List (Nat × VB)} (ha : belL 15 args = true) (hr : renL id args = args) (hnx : 15 <= nx) (hat : atL nsB4 (BP4 l t [D0, D1, D2, D3] Y M es) ⟨nx, bs⟩)
  (hc : CallsV Try.prog f args ⟨15, nsB4.zip (BP4 l t [D0, D1, D2, D3] Y M es)⟩ (.ret (.bool b)) ⟨15, nsB4.zip (BP4 l t [D0, D1, D2, D3] Y s.M s.es)⟩) :
  CallsV Try.prog f args ⟨nx, bs⟩ (.ret (.bool b)) ⟨nx, (7, .fam [] (Y * 6) (s.M 0) 80) :: (8, .fam [] (Y * 6) (s.M 1) 80) :: (9, .fam [] (Y * 6) (s.M 2) 80) :: (10, .fam [] (Y * 6) (s.M 3) 80) :: (11, .map kS .bool s.es) :: bs⟩ := by
 obtain ⟨e0, e1, e2, e3, e4, e5, e6, e7, e8, e9, e10, e11, e12, e13, e14, _⟩ := hat
 have := calls_ren (P := Try.prog) (h := ⟨nx, bs⟩) (h1 := ⟨nx, (7, .fam [] (Y * 6) (s.M 0) 80) :: (8, .fam [] (Y * 6) (s.M 1) 80) :: (9, .fam [] (Y * 6) (s.M 2) 80) :: (10, .fam [] (Y * 6) (s.M 3) 80) :: (11, .map kS .bool s.es) :: bs⟩) id (fun _ _ _ _ h => h) hc (fun n hn => by
  have hn : n < 15 := hn
  match n, hn with
  | 0, _ => exact ⟨trivial, e0⟩
  | 1, _ => exact ⟨trivial, e1⟩
  | 2, _ => exact ⟨trivial, e2⟩
  | 3, _ => exact ⟨trivial, e3⟩
  | 4, _ => exact ⟨trivial, e4⟩
  | 5, _ => exact ⟨trivial, e5⟩
  | 6, _ => exact ⟨trivial, e6⟩
  | 7, _ => exact ⟨trivial, e7⟩
  | 8, _ => exact ⟨trivial, e8⟩
  | 9, _ => exact ⟨trivial, e9⟩
  | 10, _ => exact ⟨trivial, e10⟩
  | 11, _ => exact ⟨trivial, e11⟩
  | 12, _ => exact ⟨trivial, e12⟩
  | 13, _ => exact ⟨trivial, e13⟩
  | 14, _ => exact ⟨trivial, e14⟩
  | _ + 15, hn => exact absurd hn (by omega)) (fun n hn => by
  have hn : n < 15 := hn
  match n, hn with
  | 0, _ => exact ⟨trivial, rfl, e0⟩
  | 1, _ => exact ⟨trivial, rfl, e1⟩
  | 2, _ => exact ⟨trivial, rfl, e2⟩
  | 3, _ => exact ⟨trivial, rfl, e3⟩
  | 4, _ => exact ⟨trivial, rfl, e4⟩
  | 5, _ => exact ⟨trivial, rfl, e5⟩
  | 6, _ => exact ⟨trivial, rfl, e6⟩
  | 7, _ => exact ⟨trivial, rfl, at_lt (show 7 < nx by omega)⟩
  | 8, _ => exact ⟨trivial, rfl, at_lt (show 8 < nx by omega)⟩
  | 9, _ => exact ⟨trivial, rfl, at_lt (show 9 < nx by omega)⟩
  | 10, _ => exact ⟨trivial, rfl, at_lt (show 10 < nx by omega)⟩
  | 11, _ => exact ⟨trivial, rfl, at_lt (show 11 < nx by omega)⟩
  | 12, _ => exact ⟨trivial, rfl, e12⟩
  | 13, _ => exact ⟨trivial, rfl, e13⟩
  | 14, _ => exact ⟨trivial, rfl, e14⟩
  | _ + 15, hn => exact absurd hn (by omega)) (fun q hq => by
  have hq : ∀ n, n < 15 -> n ≠ q := fun n hn => hq n hn
  rw [at_ne (hq 7 (by omega)), at_ne (hq 8 (by omega)), at_ne (hq 9 (by omega)), at_ne (hq 10 (by omega)), at_ne (hq 11 (by omega))]) (fun n hn => by
  have hn : n < 15 := hn
  match n, hn with
  | 0, _ => rfl
  | 1, _ => rfl
  | 2, _ => rfl
  | 3, _ => rfl
  | 4, _ => rfl
  | 5, _ => rfl
  | 6, _ => rfl
  | 7, _ => rfl
  | 8, _ => rfl
  | 9, _ => rfl
  | 10, _ => rfl
  | 11, _ => rfl
  | 12, _ => rfl
  | 13, _ => rfl
  | 14, _ => rfl
  | _ + 15, hn => exact absurd hn (by omega)) ha rfl
 rw [hr] at this
 exact this
theorem follow_v4 (hfind : SpOk Try.prog (findR4 l t [D0, D1, D2, D3] Y k).1 (findR4 l t [D0, D1, D2, D3] Y k).2) (cf : Cfg l t [D0, D1, D2, D3] Y) {y S d : Int} {O : Nat} {a : Nat -> Int} {M : Mde} {es : Lst} (hy : y = (Y : Int) - (k + 1 : Nat)) (hp : PreW l t [D0, D1, D2, D3] Y k O a es) :
  ∃ b s, PostW l t [D0, D1, D2, D3] Y k O d a M b s /\ CallsV Try.prog 40 [.agg (I y :: I S :: nL a), I O, I d, .ptr (.own 3 0), .ptr (.own 13 0), .ptr (.own 1 0), .ptr (.own 6 0)] ⟨15, nsB4.zip (BP4 l t [D0, D1, D2, D3] Y M es)⟩ (.ret (.bool b)) ⟨15, nsB4.zip (BP4 l t [D0, D1, D2, D3] Y s.M s.es)⟩ := by
 have hall : LoopsOk Try.prog 74 [(0, lFo4 l t [D0, D1, D2, D3] Y k y S d O a)] := fun x hx => by
  simp only [List.mem_singleton] at hx
  subst hx
  exact ⟨by kernel_rfl, lFo4_ok hfind⟩
 obtain ⟨r, h', ⟨b, s, hw, rfl, hf⟩, hc⟩ := of_callN (callL_good hmix noSp hall (un := 10) 20) (f := 40) (args := [.agg (I y :: I S :: nL a), I O, I d, .ptr (.own 3 0), .ptr (.own 13 0), .ptr (.own 1 0), .ptr (.own 6 0)]) (h := ⟨15, nsB4.zip (BP4 l t [D0, D1, D2, D3] Y M es)⟩) (K := fun r h' => ∃ b s, PostW l t [D0, D1, D2, D3] Y k O d a M b s /\ r = .ret (.bool b) /\ fitB (nsB4.zip (BP4 l t [D0, D1, D2, D3] Y s.M s.es)) h') (by
  refine cast (fob4_ev l t D0 D1 D2 D3 Y k M es y S d O a _).symm ⟨M, es, ⟨⟨rfl, rfl, by repeat (first | exact trivial | refine ⟨VB.fit_refl _, ?_⟩)⟩, rfl, rfl, rfl, rfl, trivial⟩, ⟨hy, cf, hp⟩, fun s n' hw => ⟨false, s, hw, rfl, by repeat (first | exact trivial | refine ⟨VB.fit_refl _, ?_⟩)⟩, fun s n' hw => ⟨true, s, hw, rfl, by repeat (first | exact trivial | refine ⟨VB.fit_refl _, ?_⟩)⟩⟩)
 exact ⟨b, s, hw, calls_weak hc (Nat.le_refl _) hf rfl rfl⟩
theorem folR4_ok (hfind : SpOk Try.prog (findR4 l t [D0, D1, D2, D3] Y k).1 (findR4 l t [D0, D1, D2, D3] Y k).2) (cf : Cfg l t [D0, D1, D2, D3] Y) : SpOk Try.prog (folR4 l t [D0, D1, D2, D3] Y k).1 (folR4 l t [D0, D1, D2, D3] Y k).2 := by
 intro lock args h K hK
 simp only [folR4] at hK
 split at hK
 ·rename_i nx bs
  obtain ⟨S', O, a, M, es, ⟨rfl, rfl, rfl, rfl⟩, ⟨rfl, hnx⟩, hat, ⟨hy, rfl, rfl, rfl⟩, hp, hK⟩ := hK
  obtain ⟨b, s, hw, hc⟩ := follow_v4 hfind cf hy hp
  exact ⟨_, _, hK b s hw, lock0 _ _, lift4 rfl rfl hnx hat hc⟩
 ·exact hK.elim
structure FS4 where
 M0 : Mde
 r : Nat
 acc : Rsl
 s : St
def OF4 (l : List Stk) (t : Tst) (P : List (List Int)) (Y k : Nat) (y : Int) (S : Nat) (a : Nat -> Int) (f : FS4) (e : VEx) (vs : List VV) (bs : List VB) : Prop :=
 (e = .exit 0 /\ vs = VF4 y S a 0 /\ ∃ st, PostF l t P Y (k + 1) S a f.M0 true st /\ bs = BF4 l t P Y y S a st.M st.es) ∨ (e = .ret /\ ∃ (r : Int) (st : St), PostF l t P Y (k + 1) S a f.M0 false st /\ vs = VF4 y S a r /\ bs = BF4 l t P Y y S a st.M st.es)
theorem lFi4_ok (hfol : SpOk Try.prog (folR4 l t [D0, D1, D2, D3] Y k).1 (folR4 l t [D0, D1, D2, D3] Y k).2) {y : Int} {S : Nat} {a : Nat -> Int} : LSound Try.prog true (.block 0 (.loop (loopB 0 (bodyOf Try.prog 44)))) (ntOf Try.prog 44) (lFi4 l t [D0, D1, D2, D3] Y k y S a) := by
 by_cases hh : y = (Y : Int) - (k + 1 : Nat) /\ Cfg l t [D0, D1, D2, D3] Y /\ k + 1 <= Y /\ leftB l a
 ·obtain ⟨hy, cf, hk, ha⟩ := hh
  refine loop_rowD hmix (noL_good (tab1 hfol)) (un := 10) (ds := dsF4) (ns := nsF4) (nx := 16) (lsp := fun f : FS4 => tabB [(2, lG4 l t [D0, D1, D2, D3] Y k y S a f.r)]) (fun f : FS4 => VF4 y S a f.r) (fun f => BF4 l t [D0, D1, D2, D3] Y y S a f.s.M f.s.es) (fun f => DoneF l t [D0, D1, D2, D3] Y k S a f.M0 f.r f.acc f.s) (fun f => f.r) (OF4 l t [D0, D1, D2, D3] Y k y S a) (fun _ _ => lsp_one (by kernel_rfl) lG4_ok) ?_ ?_
  ·rintro ⟨M0, r, acc, s⟩ hd
   dsimp only at hd ⊢
   refine cast (gm4_ev l t D0 D1 D2 D3 Y k s.M s.es y S r a _).symm ?_
   have hr16 : r < 16 := Nat.lt_of_lt_of_le hd.lt (Nat.pow_le_pow_right (n := 2) (by omega) (show 4 <= 4 by omega))
   by_cases hr : r = 0
   ·subst hr
    refine cond_d (fun h => by omega) (fun _ => .inl ⟨rfl, rfl, s, done_end hd, rfl⟩)
   ·refine cond_dk (by omega) ⟨s.M, s.es, ⟨⟨rfl, rfl, by repeat (first | exact trivial | refine ⟨VB.fit_refl _, ?_⟩)⟩, rfl, rfl, rfl, rfl, rfl, rfl, rfl, rfl, rfl, rfl, rfl, rfl, rfl, trivial⟩, ⟨by omega, hk, cf, hr16⟩, ?_⟩
    intro o d hg
    have ho : o < 2 ^ [D0, D1, D2, D3].length := by
     have := grpF_le cf.nd (Y - (k + 1)) r [D0, D1, D2, D3].length
     rw [hg] at this; exact this
    have ho16 : o < 16 := Nat.lt_of_lt_of_le ho (Nat.pow_le_pow_right (n := 2) (by omega) (show 4 <= 4 by omega))
    refine ⟨S, o, a, s.M, s.es, ⟨rfl, rfl, rfl, rfl⟩, ⟨rfl, by omega⟩, ⟨rfl, rfl, rfl, rfl, rfl, rfl, rfl, rfl, rfl, rfl, rfl, rfl, rfl, rfl, rfl, trivial⟩, ⟨hy, rfl, rfl, rfl⟩, ⟨hk, ho, ha, hd.lost⟩, ?_⟩
    intro b s' hw
    obtain ⟨d1, d2⟩ := done_step cf.nd hd hr hg (s' := s')
    refine cond_i (fun g => ?_) (fun g => ?_)
    ·have g : b = false := by simpa using g
     subst g
     obtain ⟨z1, z2, z3⟩ := d2 hw
     refine ⟨key82, .inr ⟨rfl, r, ⟨s'.M, setE s'.es (kyF y S a) 1⟩, ⟨by rw [z1]; rfl, ?_, z3, fun x hx => by rw [z1] at hx; cases hx⟩, rfl, rfl⟩⟩
     have := lost_set z2 hk z1
     rw [<- hy] at this
     exact this
    ·have g : b = true := by simpa using g
     subst g
     obtain ⟨acc', hd', hlt⟩ := d1 hw
     rw [andnot_v r hr16 o ho16]
     exact ⟨⟨M0, _, acc', s'⟩, hd', hlt, rfl, fitBs_refl _, fun _ _ _ h => h⟩
  ·rintro lock tt h K ⟨M, es, hf, ⟨_, _, hp⟩, k1, k2⟩
   refine ⟨⟨M, S, fun _ _ _ => 0, ⟨M, es⟩⟩, hf, done_start hp, ?_⟩
   rintro e vs bs (⟨rfl, rfl, st, hp, rfl⟩ | ⟨rfl, r, st, hp, rfl, rfl⟩)
   ·exact k1 st hp
   ·exact k2 st r hp
 ·rintro lock tt h K ⟨M, es, hf, ⟨h1, h2, h3⟩, _⟩
  exact (hh ⟨h1, h2, h3.1, h3.2.2.1⟩).elim
theorem find_z4 (cf : Cfg l t [D0, D1, D2, D3] Y) {y : Int} {S : Nat} {a : Nat -> Int} {M : Mde} {es : Lst} (hy : y = (Y : Int)) (hp : PreF l t [D0, D1, D2, D3] Y 0 S a es) :
  ∃ b s, PostF l t [D0, D1, D2, D3] Y 0 S a M b s /\ CallsV Try.prog 44 [.agg (I y :: I S :: nL a), .ptr (.own 4 0), .ptr (.own 12 0), .ptr (.own 1 0), .ptr (.own 14 0)] ⟨15, nsB4.zip (BP4 l t [D0, D1, D2, D3] Y M es)⟩ (.ret (.bool b)) ⟨15, nsB4.zip (BP4 l t [D0, D1, D2, D3] Y s.M s.es)⟩ := by
 have hall : LoopsOk Try.prog 44 [(0, lZ)] := fun x hx => by
  simp only [List.mem_singleton] at hx
  subst hx
  exact ⟨by kernel_rfl, lZ_ok⟩
 obtain ⟨r, h', ⟨rfl, hf⟩, hc⟩ := of_callN (callL_good hmix noSp hall (un := 10) 20) (f := 44) (args := [.agg (I y :: I S :: nL a), .ptr (.own 4 0), .ptr (.own 12 0), .ptr (.own 1 0), .ptr (.own 14 0)]) (h := ⟨15, nsB4.zip (BP4 l t [D0, D1, D2, D3] Y M es)⟩) (K := fun r h' => r = .ret (.bool true) /\ fitB (nsB4.zip (BP4 l t [D0, D1, D2, D3] Y M es)) h') (by
  refine cast (fiz4_ev l t D0 D1 D2 D3 Y M es y S a _).symm (cond_dk hy ⟨rfl, by repeat (first | exact trivial | refine ⟨VB.fit_refl _, ?_⟩)⟩))
 exact ⟨true, ⟨M, es⟩, ⟨rfl, hp.2.2.2, Same.refl _ _ _ _, fun x _ i y j _ _ h1 h2 => by omega⟩, calls_weak hc (Nat.le_refl _) hf rfl rfl⟩
theorem find_s4 (hfol : SpOk Try.prog (folR4 l t [D0, D1, D2, D3] Y k).1 (folR4 l t [D0, D1, D2, D3] Y k).2) (cf : Cfg l t [D0, D1, D2, D3] Y) {y : Int} {S : Nat} {a : Nat -> Int} {M : Mde} {es : Lst} (hy : y = (Y : Int) - (k + 1 : Nat)) (hp : PreF l t [D0, D1, D2, D3] Y (k + 1) S a es) :
  ∃ b s, PostF l t [D0, D1, D2, D3] Y (k + 1) S a M b s /\ CallsV Try.prog 44 [.agg (I y :: I S :: nL a), .ptr (.own 4 0), .ptr (.own 12 0), .ptr (.own 1 0), .ptr (.own 14 0)] ⟨15, nsB4.zip (BP4 l t [D0, D1, D2, D3] Y M es)⟩ (.ret (.bool b)) ⟨15, nsB4.zip (BP4 l t [D0, D1, D2, D3] Y s.M s.es)⟩ := by
 have hall : LoopsOk Try.prog 44 [(0, lFi4 l t [D0, D1, D2, D3] Y k y S a)] := fun x hx => by
  simp only [List.mem_singleton] at hx
  subst hx
  exact ⟨by kernel_rfl, lFi4_ok hfol⟩
 obtain ⟨r, h', ⟨b, s, hw, rfl, hf⟩, hc⟩ := of_callN (callL_good hmix noSp hall (un := 10) 20) (f := 44) (args := [.agg (I y :: I S :: nL a), .ptr (.own 4 0), .ptr (.own 12 0), .ptr (.own 1 0), .ptr (.own 14 0)]) (h := ⟨15, nsB4.zip (BP4 l t [D0, D1, D2, D3] Y M es)⟩) (K := fun r h' => ∃ b s, PostF l t [D0, D1, D2, D3] Y (k + 1) S a M b s /\ r = .ret (.bool b) /\ fitB (nsB4.zip (BP4 l t [D0, D1, D2, D3] Y s.M s.es)) h') (by
  refine cast (fib4_ev l t D0 D1 D2 D3 Y k M es y S a _).symm ?_
  have hk := hp.1
  refine cond_d (fun h => by omega) (fun _ => ⟨key82, cond_d (fun h => ⟨false, ⟨M, es⟩, ?_, rfl, by repeat (first | exact trivial | refine ⟨VB.fit_refl _, ?_⟩)⟩) (fun _ => ⟨M, es, ⟨⟨rfl, rfl, by repeat (first | exact trivial | refine ⟨VB.fit_refl _, ?_⟩)⟩, rfl, rfl, rfl, rfl, rfl, rfl, rfl, rfl, trivial⟩, ⟨hy, cf, hp⟩, fun s hw => ⟨true, s, hw, rfl, by repeat (first | exact trivial | refine ⟨VB.fit_refl _, ?_⟩)⟩, fun s r hw => ⟨false, s, hw, rfl, by repeat (first | exact trivial | refine ⟨VB.fit_refl _, ?_⟩)⟩⟩)⟩)
  have h : valOf es (kyF y S a) = 1 := h
  have hn := lost_get cf.hl.1 hp.2.2.2 (S := S) (a := a) hk (by rw [<- hy, h]; omega)
  exact ⟨by rw [hn]; rfl, hp.2.2.2, Same.refl _ _ _ _, fun x hx => by rw [hn] at hx; cases hx⟩)
 exact ⟨b, s, hw, calls_weak hc (Nat.le_refl _) hf rfl rfl⟩
theorem findR4_ok (cf : Cfg l t [D0, D1, D2, D3] Y) : ∀ k : Nat, SpOk Try.prog (findR4 l t [D0, D1, D2, D3] Y k).1 (findR4 l t [D0, D1, D2, D3] Y k).2 := by
 have key : ∀ k : Nat, (∀ (y : Int) (S : Nat) (a : Nat -> Int) (M : Mde) (es : Lst), y = (Y : Int) - k -> PreF l t [D0, D1, D2, D3] Y k S a es -> ∃ b s, PostF l t [D0, D1, D2, D3] Y k S a M b s /\ CallsV Try.prog 44 [.agg (I y :: I S :: nL a), .ptr (.own 4 0), .ptr (.own 12 0), .ptr (.own 1 0), .ptr (.own 14 0)] ⟨15, nsB4.zip (BP4 l t [D0, D1, D2, D3] Y M es)⟩ (.ret (.bool b)) ⟨15, nsB4.zip (BP4 l t [D0, D1, D2, D3] Y s.M s.es)⟩) -> SpOk Try.prog (findR4 l t [D0, D1, D2, D3] Y k).1 (findR4 l t [D0, D1, D2, D3] Y k).2 := by
  intro k hv lock args h K hK
  simp only [findR4] at hK
  split at hK
  ·rename_i nx bs
   obtain ⟨S', a, M, es, ⟨rfl, rfl, rfl, rfl⟩, ⟨rfl, hnx⟩, hat, ⟨hy, rfl, rfl⟩, hp, hK⟩ := hK
   obtain ⟨b, s, hw, hc⟩ := hv _ S' a M es hy hp
   exact ⟨_, _, hK b s hw, lock0 _ _, lift4 rfl rfl hnx hat hc⟩
  ·exact hK.elim
 intro k
 induction k with
 | zero => exact key 0 (fun y S a M es hy hp => find_z4 cf (by omega) hp)
 | succ k ih => exact key (k + 1) (fun y S a M es hy hp => find_s4 (folR4_ok ih cf) cf hy hp)
end
def nsPl4 : List Nat := [5, 7, 8, 9, 10]
def BPl4 (Y : Nat) (M : Mde) : List VB := [.cells [sFa 7 Y, sFa 8 Y, sFa 9 Y, sFa 10 Y] 76, .fam [] (Y * 6) (M 0) 80, .fam [] (Y * 6) (M 1) 80, .fam [] (Y * 6) (M 2) 80, .fam [] (Y * 6) (M 3) 80]
def lCp4 (l : List Stk) (t : Tst) (P : List (List Int)) (Y : Nat) : LT := fun lock tt h K => match h.nx with
 | 15 => ∃ (M : Mde), FitP lock h tt ⟨15, nsPl4.zip (BPl4 Y M)⟩ ((18, .nils) :: dsPl.zip (VPl l t P Y 4 0 .nils 0)) /\ K .normal ((18, .tl Y 1 (rowG l.length M 0)) :: (18 :: dsPl).zip (.sl 15 Y :: VPl l t P Y 4 0 .nils Y)) ⟨16, (15, .gone) :: (15 :: nsPl4).zip (.vec Y (rowG l.length M 0) 1 23 :: (BPl4 Y M))⟩
 | 18 => ∃ (M : Mde) (gO : Nat -> List VV), FitP lock h tt ⟨18, (17 :: nsPl4).zip (.vec 1 gO 1 26 :: BPl4 Y M)⟩ ((18, .nils) :: dsPl.zip (VPl l t P Y 4 1 (.sl 17 1) 0)) /\ K .normal ((18, .tl Y 1 (rowG l.length M 1)) :: (18 :: dsPl).zip (.sl 18 Y :: VPl l t P Y 4 1 (.sl 17 1) Y)) ⟨19, (18, .gone) :: (18 :: (17 :: nsPl4)).zip (.vec Y (rowG l.length M 1) 1 23 :: (.vec 1 gO 1 26 :: BPl4 Y M))⟩
 | 20 => ∃ (M : Mde) (gO : Nat -> List VV), FitP lock h tt ⟨20, (17 :: nsPl4).zip (.vec 2 gO 1 26 :: BPl4 Y M)⟩ ((18, .nils) :: dsPl.zip (VPl l t P Y 4 2 (.sl 17 2) 0)) /\ K .normal ((18, .tl Y 1 (rowG l.length M 2)) :: (18 :: dsPl).zip (.sl 20 Y :: VPl l t P Y 4 2 (.sl 17 2) Y)) ⟨21, (20, .gone) :: (20 :: (17 :: nsPl4)).zip (.vec Y (rowG l.length M 2) 1 23 :: (.vec 2 gO 1 26 :: BPl4 Y M))⟩
 | 22 => ∃ (M : Mde) (gO : Nat -> List VV), FitP lock h tt ⟨22, (17 :: nsPl4).zip (.vec 3 gO 1 26 :: BPl4 Y M)⟩ ((18, .nils) :: dsPl.zip (VPl l t P Y 4 3 (.sl 17 3) 0)) /\ K .normal ((18, .tl Y 1 (rowG l.length M 3)) :: (18 :: dsPl).zip (.sl 22 Y :: VPl l t P Y 4 3 (.sl 17 3) Y)) ⟨23, (22, .gone) :: (22 :: (17 :: nsPl4)).zip (.vec Y (rowG l.length M 3) 1 23 :: (.vec 3 gO 1 26 :: BPl4 Y M))⟩
 | _ => False
theorem cp40_ev (l : List Stk) (t : Tst) (P : List (List Int)) (Y y : Nat) (M : Mde) (g : Nat -> List VV) (X : VEx -> List VV -> List VB -> Prop) : codeE Try.prog (callN Try.prog (tabS [listT]) noL 10 20) (fun _ => none) true 10 (ntOf Try.prog 17) 0 (loopB 5 (bodyOf Try.prog 17)) ((18 :: dsPl).zip (.sl 15 y :: VPl l t P Y 4 0 .nils y)) ⟨16, (15 :: nsPl4).zip (.vec y g 1 23 :: (BPl4 Y M))⟩ (obs 16 (18 :: dsPl) (15 :: nsPl4) X) =
 (let z1 := [M 0 (0 + (↑y : Int).toNat * (6) + 0), M 0 (0 + (↑y : Int).toNat * (6) + 1), M 0 (0 + (↑y : Int).toNat * (6) + 2), M 0 (0 + (↑y : Int).toNat * (6) + 3), M 0 (0 + (↑y : Int).toNat * (6) + 4), M 0 (0 + (↑y : Int).toNat * (6) + 5)];
 (bif decide ((↑y : Int) < (↑Y : Int)) then
 bif decide ((0 : Int) <= (↑y : Int) /\ (↑y : Int) < (↑Y : Int)) then
 bif decide (0 + (↑y : Int).toNat * (6) + (6) <= Y * 6) then
 ∃ (n : Nat -> Int), ∃ (m : Nat), [I (setF (fun (_ : Nat) => (0 : Int)) 0 z1 (0 + 0)), I (setF (fun (_ : Nat) => (0 : Int)) 0 z1 (0 + 1)), I (setF (fun (_ : Nat) => (0 : Int)) 0 z1 (0 + 2)), I (setF (fun (_ : Nat) => (0 : Int)) 0 z1 (0 + 3)), I (setF (fun (_ : Nat) => (0 : Int)) 0 z1 (0 + 4)), I (setF (fun (_ : Nat) => (0 : Int)) 0 z1 (0 + 5))] = nL n /\ (↑l.length : Int) = (↑m : Int) /\ m <= 6 /\ bif y.beq y then
 bif roomB (y + 1) (24) then
 bif inK .i64 ((↑y : Int) + (1 : Int)) then
 X .normal [VV.sl 15 (y + 1), I ((↑y : Int) + (1 : Int)), I (↑Y : Int), VV.slice (.fa (7 + 0) 0 0) Y Y, I (↑0 : Int), I (↑4 : Int), VV.slice (.own 5 0) 4 4, VV.nils, I 0, VV.nils, VV.ptr (.own 1 0), VV.ptr (.own 0 0), VV.tl l.length 5 (stG l), VV.agg [VV.tl t.T.length 1 (dG t.T), I t.far, I t.least], VV.tl P.length 1 (pthG P)] [VB.vec (y + 1) (catG y g (oneL 1 [VV.tl m 1 (chG n)])) (1) 23, VB.cells [sFa 7 Y, sFa 8 Y, sFa 9 Y, sFa 10 Y] 76, VB.fam [] (Y * 6) (M 0) 80, VB.fam [] (Y * 6) (M 1) 80, VB.fam [] (Y * 6) (M 2) 80, VB.fam [] (Y * 6) (M 3) 80]
 else False
 else False
 else False
 else False
 else False
 else X (.exit 5) [VV.sl 15 y, I (↑y : Int), I (↑Y : Int), VV.slice (.fa (7 + 0) 0 0) Y Y, I (↑0 : Int), I (↑4 : Int), VV.slice (.own 5 0) 4 4, VV.nils, I 0, VV.nils, VV.ptr (.own 1 0), VV.ptr (.own 0 0), VV.tl l.length 5 (stG l), VV.agg [VV.tl t.T.length 1 (dG t.T), I t.far, I t.least], VV.tl P.length 1 (pthG P)] [VB.vec y g 1 23, VB.cells [sFa 7 Y, sFa 8 Y, sFa 9 Y, sFa 10 Y] 76, VB.fam [] (Y * 6) (M 0) 80, VB.fam [] (Y * 6) (M 1) 80, VB.fam [] (Y * 6) (M 2) 80, VB.fam [] (Y * 6) (M 3) 80])) := by kernel_rfl
theorem cp41_ev (l : List Stk) (t : Tst) (P : List (List Int)) (Y y : Nat) (M : Mde) (g gO : Nat -> List VV) (X : VEx -> List VV -> List VB -> Prop) : codeE Try.prog (callN Try.prog (tabS [listT]) noL 10 20) (fun _ => none) true 10 (ntOf Try.prog 17) 0 (loopB 5 (bodyOf Try.prog 17)) ((18 :: dsPl).zip (.sl 18 y :: VPl l t P Y 4 1 (.sl 17 1) y)) ⟨19, (18 :: (17 :: nsPl4)).zip (.vec y g 1 23 :: (.vec 1 gO 1 26 :: BPl4 Y M))⟩ (obs 19 (18 :: dsPl) (18 :: (17 :: nsPl4)) X) =
 (let z1 := [M 1 (0 + (↑y : Int).toNat * (6) + 0), M 1 (0 + (↑y : Int).toNat * (6) + 1), M 1 (0 + (↑y : Int).toNat * (6) + 2), M 1 (0 + (↑y : Int).toNat * (6) + 3), M 1 (0 + (↑y : Int).toNat * (6) + 4), M 1 (0 + (↑y : Int).toNat * (6) + 5)];
 (bif decide ((↑y : Int) < (↑Y : Int)) then
 bif decide ((0 : Int) <= (↑y : Int) /\ (↑y : Int) < (↑Y : Int)) then
 bif decide (0 + (↑y : Int).toNat * (6) + (6) <= Y * 6) then
 ∃ (n : Nat -> Int), ∃ (m : Nat), [I (setF (fun (_ : Nat) => (0 : Int)) 0 z1 (0 + 0)), I (setF (fun (_ : Nat) => (0 : Int)) 0 z1 (0 + 1)), I (setF (fun (_ : Nat) => (0 : Int)) 0 z1 (0 + 2)), I (setF (fun (_ : Nat) => (0 : Int)) 0 z1 (0 + 3)), I (setF (fun (_ : Nat) => (0 : Int)) 0 z1 (0 + 4)), I (setF (fun (_ : Nat) => (0 : Int)) 0 z1 (0 + 5))] = nL n /\ (↑l.length : Int) = (↑m : Int) /\ m <= 6 /\ bif y.beq y then
 bif roomB (y + 1) (24) then
 bif inK .i64 ((↑y : Int) + (1 : Int)) then
 X .normal [VV.sl 18 (y + 1), I ((↑y : Int) + (1 : Int)), I (↑Y : Int), VV.slice (.fa (7 + 1) 0 0) Y Y, I (↑1 : Int), I (↑4 : Int), VV.slice (.own 5 0) 4 4, VV.sl 17 1, I 0, VV.nils, VV.ptr (.own 1 0), VV.ptr (.own 0 0), VV.tl l.length 5 (stG l), VV.agg [VV.tl t.T.length 1 (dG t.T), I t.far, I t.least], VV.tl P.length 1 (pthG P)] [VB.vec (y + 1) (catG y g (oneL 1 [VV.tl m 1 (chG n)])) (1) 23, VB.vec 1 gO 1 26, VB.cells [sFa 7 Y, sFa 8 Y, sFa 9 Y, sFa 10 Y] 76, VB.fam [] (Y * 6) (M 0) 80, VB.fam [] (Y * 6) (M 1) 80, VB.fam [] (Y * 6) (M 2) 80, VB.fam [] (Y * 6) (M 3) 80]
 else False
 else False
 else False
 else False
 else False
 else X (.exit 5) [VV.sl 18 y, I (↑y : Int), I (↑Y : Int), VV.slice (.fa (7 + 1) 0 0) Y Y, I (↑1 : Int), I (↑4 : Int), VV.slice (.own 5 0) 4 4, VV.sl 17 1, I 0, VV.nils, VV.ptr (.own 1 0), VV.ptr (.own 0 0), VV.tl l.length 5 (stG l), VV.agg [VV.tl t.T.length 1 (dG t.T), I t.far, I t.least], VV.tl P.length 1 (pthG P)] [VB.vec y g 1 23, VB.vec 1 gO 1 26, VB.cells [sFa 7 Y, sFa 8 Y, sFa 9 Y, sFa 10 Y] 76, VB.fam [] (Y * 6) (M 0) 80, VB.fam [] (Y * 6) (M 1) 80, VB.fam [] (Y * 6) (M 2) 80, VB.fam [] (Y * 6) (M 3) 80])) := by kernel_rfl
theorem cp42_ev (l : List Stk) (t : Tst) (P : List (List Int)) (Y y : Nat) (M : Mde) (g gO : Nat -> List VV) (X : VEx -> List VV -> List VB -> Prop) : codeE Try.prog (callN Try.prog (tabS [listT]) noL 10 20) (fun _ => none) true 10 (ntOf Try.prog 17) 0 (loopB 5 (bodyOf Try.prog 17)) ((18 :: dsPl).zip (.sl 20 y :: VPl l t P Y 4 2 (.sl 17 2) y)) ⟨21, (20 :: (17 :: nsPl4)).zip (.vec y g 1 23 :: (.vec 2 gO 1 26 :: BPl4 Y M))⟩ (obs 21 (18 :: dsPl) (20 :: (17 :: nsPl4)) X) =
 (let z1 := [M 2 (0 + (↑y : Int).toNat * (6) + 0), M 2 (0 + (↑y : Int).toNat * (6) + 1), M 2 (0 + (↑y : Int).toNat * (6) + 2), M 2 (0 + (↑y : Int).toNat * (6) + 3), M 2 (0 + (↑y : Int).toNat * (6) + 4), M 2 (0 + (↑y : Int).toNat * (6) + 5)];
 (bif decide ((↑y : Int) < (↑Y : Int)) then
 bif decide ((0 : Int) <= (↑y : Int) /\ (↑y : Int) < (↑Y : Int)) then
 bif decide (0 + (↑y : Int).toNat * (6) + (6) <= Y * 6) then
 ∃ (n : Nat -> Int), ∃ (m : Nat), [I (setF (fun (_ : Nat) => (0 : Int)) 0 z1 (0 + 0)), I (setF (fun (_ : Nat) => (0 : Int)) 0 z1 (0 + 1)), I (setF (fun (_ : Nat) => (0 : Int)) 0 z1 (0 + 2)), I (setF (fun (_ : Nat) => (0 : Int)) 0 z1 (0 + 3)), I (setF (fun (_ : Nat) => (0 : Int)) 0 z1 (0 + 4)), I (setF (fun (_ : Nat) => (0 : Int)) 0 z1 (0 + 5))] = nL n /\ (↑l.length : Int) = (↑m : Int) /\ m <= 6 /\ bif y.beq y then
 bif roomB (y + 1) (24) then
 bif inK .i64 ((↑y : Int) + (1 : Int)) then
 X .normal [VV.sl 20 (y + 1), I ((↑y : Int) + (1 : Int)), I (↑Y : Int), VV.slice (.fa (7 + 2) 0 0) Y Y, I (↑2 : Int), I (↑4 : Int), VV.slice (.own 5 0) 4 4, VV.sl 17 2, I 0, VV.nils, VV.ptr (.own 1 0), VV.ptr (.own 0 0), VV.tl l.length 5 (stG l), VV.agg [VV.tl t.T.length 1 (dG t.T), I t.far, I t.least], VV.tl P.length 1 (pthG P)] [VB.vec (y + 1) (catG y g (oneL 1 [VV.tl m 1 (chG n)])) (1) 23, VB.vec 2 gO 1 26, VB.cells [sFa 7 Y, sFa 8 Y, sFa 9 Y, sFa 10 Y] 76, VB.fam [] (Y * 6) (M 0) 80, VB.fam [] (Y * 6) (M 1) 80, VB.fam [] (Y * 6) (M 2) 80, VB.fam [] (Y * 6) (M 3) 80]
 else False
 else False
 else False
 else False
 else False
 else X (.exit 5) [VV.sl 20 y, I (↑y : Int), I (↑Y : Int), VV.slice (.fa (7 + 2) 0 0) Y Y, I (↑2 : Int), I (↑4 : Int), VV.slice (.own 5 0) 4 4, VV.sl 17 2, I 0, VV.nils, VV.ptr (.own 1 0), VV.ptr (.own 0 0), VV.tl l.length 5 (stG l), VV.agg [VV.tl t.T.length 1 (dG t.T), I t.far, I t.least], VV.tl P.length 1 (pthG P)] [VB.vec y g 1 23, VB.vec 2 gO 1 26, VB.cells [sFa 7 Y, sFa 8 Y, sFa 9 Y, sFa 10 Y] 76, VB.fam [] (Y * 6) (M 0) 80, VB.fam [] (Y * 6) (M 1) 80, VB.fam [] (Y * 6) (M 2) 80, VB.fam [] (Y * 6) (M 3) 80])) := by kernel_rfl
theorem cp43_ev (l : List Stk) (t : Tst) (P : List (List Int)) (Y y : Nat) (M : Mde) (g gO : Nat -> List VV) (X : VEx -> List VV -> List VB -> Prop) : codeE Try.prog (callN Try.prog (tabS [listT]) noL 10 20) (fun _ => none) true 10 (ntOf Try.prog 17) 0 (loopB 5 (bodyOf Try.prog 17)) ((18 :: dsPl).zip (.sl 22 y :: VPl l t P Y 4 3 (.sl 17 3) y)) ⟨23, (22 :: (17 :: nsPl4)).zip (.vec y g 1 23 :: (.vec 3 gO 1 26 :: BPl4 Y M))⟩ (obs 23 (18 :: dsPl) (22 :: (17 :: nsPl4)) X) =
 (let z1 := [M 3 (0 + (↑y : Int).toNat * (6) + 0), M 3 (0 + (↑y : Int).toNat * (6) + 1), M 3 (0 + (↑y : Int).toNat * (6) + 2), M 3 (0 + (↑y : Int).toNat * (6) + 3), M 3 (0 + (↑y : Int).toNat * (6) + 4), M 3 (0 + (↑y : Int).toNat * (6) + 5)];
 (bif decide ((↑y : Int) < (↑Y : Int)) then
 bif decide ((0 : Int) <= (↑y : Int) /\ (↑y : Int) < (↑Y : Int)) then
 bif decide (0 + (↑y : Int).toNat * (6) + (6) <= Y * 6) then
 ∃ (n : Nat -> Int), ∃ (m : Nat), [I (setF (fun (_ : Nat) => (0 : Int)) 0 z1 (0 + 0)), I (setF (fun (_ : Nat) => (0 : Int)) 0 z1 (0 + 1)), I (setF (fun (_ : Nat) => (0 : Int)) 0 z1 (0 + 2)), I (setF (fun (_ : Nat) => (0 : Int)) 0 z1 (0 + 3)), I (setF (fun (_ : Nat) => (0 : Int)) 0 z1 (0 + 4)), I (setF (fun (_ : Nat) => (0 : Int)) 0 z1 (0 + 5))] = nL n /\ (↑l.length : Int) = (↑m : Int) /\ m <= 6 /\ bif y.beq y then
 bif roomB (y + 1) (24) then
 bif inK .i64 ((↑y : Int) + (1 : Int)) then
 X .normal [VV.sl 22 (y + 1), I ((↑y : Int) + (1 : Int)), I (↑Y : Int), VV.slice (.fa (7 + 3) 0 0) Y Y, I (↑3 : Int), I (↑4 : Int), VV.slice (.own 5 0) 4 4, VV.sl 17 3, I 0, VV.nils, VV.ptr (.own 1 0), VV.ptr (.own 0 0), VV.tl l.length 5 (stG l), VV.agg [VV.tl t.T.length 1 (dG t.T), I t.far, I t.least], VV.tl P.length 1 (pthG P)] [VB.vec (y + 1) (catG y g (oneL 1 [VV.tl m 1 (chG n)])) (1) 23, VB.vec 3 gO 1 26, VB.cells [sFa 7 Y, sFa 8 Y, sFa 9 Y, sFa 10 Y] 76, VB.fam [] (Y * 6) (M 0) 80, VB.fam [] (Y * 6) (M 1) 80, VB.fam [] (Y * 6) (M 2) 80, VB.fam [] (Y * 6) (M 3) 80]
 else False
 else False
 else False
 else False
 else False
 else X (.exit 5) [VV.sl 22 y, I (↑y : Int), I (↑Y : Int), VV.slice (.fa (7 + 3) 0 0) Y Y, I (↑3 : Int), I (↑4 : Int), VV.slice (.own 5 0) 4 4, VV.sl 17 3, I 0, VV.nils, VV.ptr (.own 1 0), VV.ptr (.own 0 0), VV.tl l.length 5 (stG l), VV.agg [VV.tl t.T.length 1 (dG t.T), I t.far, I t.least], VV.tl P.length 1 (pthG P)] [VB.vec y g 1 23, VB.vec 3 gO 1 26, VB.cells [sFa 7 Y, sFa 8 Y, sFa 9 Y, sFa 10 Y] 76, VB.fam [] (Y * 6) (M 0) 80, VB.fam [] (Y * 6) (M 1) 80, VB.fam [] (Y * 6) (M 2) 80, VB.fam [] (Y * 6) (M 3) 80])) := by kernel_rfl
def hpn4_1 (D0 : List Int) (D1 : List Int) (D2 : List Int) (D3 : List Int) (t : Tst) : VH := VH.mk (2) [(1, VB.cells [VV.tl [D0, D1, D2, D3].length 1 (pthG [D0, D1, D2, D3])] 26), (0, VB.cells [VV.tl t.T.length 1 (dG t.T), I t.far, I t.least] 25)]
def hpn4_2 (D0 : List Int) (D1 : List Int) (D2 : List Int) (D3 : List Int) (l : List Stk) (t : Tst) : VH := let z1 := (↑([D0, D1, D2, D3].getD (Int.toNat (0 : Int)) []).length : Int); VH.mk (15) ((13, VB.cells [VV.func 44 [] [VV.ptr (.own (4) 0), VV.ptr (.own (12) 0), VV.ptr (.own (1) 0), VV.ptr (.own (14) 0)]] 78) :: (14, VB.cells [VV.func 40 [] [VV.ptr (.own (3) 0), VV.ptr (.own (13) 0), VV.ptr (.own (1) 0), VV.ptr (.own (6) 0)]] 88) :: (14, VB.cells [VV.nilf] 88) :: (13, VB.cells [VV.nilf] 78) :: (12, VB.cells [VV.mp (11)] 77) :: (12, VB.cells [VV.opq (Value.map none)] 77) :: (11, VB.map ([PK.int IntKind.i64] ++ ([PK.int IntKind.i64] ++ ((List.replicate 6 [PK.int IntKind.i64]).flatten ++ []))) PK.bool []) :: (5, VB.cells [VV.slice (.fa (7) 0 0) z1.toNat z1.toNat, VV.slice (.fa (8) 0 0) z1.toNat z1.toNat, VV.slice (.fa (9) 0 0) z1.toNat z1.toNat, VV.slice (.fa (10) 0 0) z1.toNat z1.toNat] 76) :: ([(10, VB.fam [] (z1.toNat * (6)) (fun (_ : Nat) => (0 : Int)) 80)] ++ (5, VB.cells [VV.slice (.fa (7) 0 0) z1.toNat z1.toNat, VV.slice (.fa (8) 0 0) z1.toNat z1.toNat, VV.slice (.fa (9) 0 0) z1.toNat z1.toNat, VV.nils] 76) :: ([(9, VB.fam [] (z1.toNat * (6)) (fun (_ : Nat) => (0 : Int)) 80)] ++ (5, VB.cells [VV.slice (.fa (7) 0 0) z1.toNat z1.toNat, VV.slice (.fa (8) 0 0) z1.toNat z1.toNat, VV.nils, VV.nils] 76) :: ([(8, VB.fam [] (z1.toNat * (6)) (fun (_ : Nat) => (0 : Int)) 80)] ++ (5, VB.cells [VV.slice (.fa (7) 0 0) z1.toNat z1.toNat, VV.nils, VV.nils, VV.nils] 76) :: ([(7, VB.fam [] (z1.toNat * (6)) (fun (_ : Nat) => (0 : Int)) 80)] ++ [(6, VB.cells [VV.slice (.own (5) 0) (4) (4)] 75), (6, VB.cells [VV.nils] 75), (5, VB.cells [VV.nils, VV.nils, VV.nils, VV.nils] 76), (4, VB.cells [I z1] 3), (4, VB.cells [I 0] 3), (3, VB.cells [VV.ptr (.own (2) 0)] 72), (3, VB.cells [VV.nilp] 72), (2, VB.cells (stD l :: tsL t) 74), (1, VB.cells [VV.tl [D0, D1, D2, D3].length 1 (pthG [D0, D1, D2, D3])] 26), (0, VB.cells [VV.tl t.T.length 1 (dG t.T), I t.far, I t.least] 25)])))))
def hpn4_3 (D0 : List Int) (D1 : List Int) (D2 : List Int) (D3 : List Int) (l : List Stk) (s : St) (t : Tst) : VH := let z1 := (↑([D0, D1, D2, D3].getD (Int.toNat (0 : Int)) []).length : Int); VH.mk (15) [(7, VB.fam [] (D0.length * 6) (s.M 0) 80), (8, VB.fam [] (D0.length * 6) (s.M 1) 80), (9, VB.fam [] (D0.length * 6) (s.M 2) 80), (10, VB.fam [] (D0.length * 6) (s.M 3) 80), (11, VB.map kS PK.bool s.es), (13, VB.cells [VV.func 44 [] [VV.ptr (.own (4) 0), VV.ptr (.own (12) 0), VV.ptr (.own (1) 0), VV.ptr (.own (14) 0)]] 78), (14, VB.cells [VV.func 40 [] [VV.ptr (.own (3) 0), VV.ptr (.own (13) 0), VV.ptr (.own (1) 0), VV.ptr (.own (6) 0)]] 88), (14, VB.cells [VV.nilf] 88), (13, VB.cells [VV.nilf] 78), (12, VB.cells [VV.mp (11)] 77), (12, VB.cells [VV.opq (Value.map none)] 77), (11, VB.map kS PK.bool []), (5, VB.cells [VV.slice (.fa (7) 0 0) z1.toNat z1.toNat, VV.slice (.fa (8) 0 0) z1.toNat z1.toNat, VV.slice (.fa (9) 0 0) z1.toNat z1.toNat, VV.slice (.fa (10) 0 0) z1.toNat z1.toNat] 76), (10, VB.fam [] (z1.toNat * (6)) (fun (_ : Nat) => (0 : Int)) 80), (5, VB.cells [VV.slice (.fa (7) 0 0) z1.toNat z1.toNat, VV.slice (.fa (8) 0 0) z1.toNat z1.toNat, VV.slice (.fa (9) 0 0) z1.toNat z1.toNat, VV.nils] 76), (9, VB.fam [] (z1.toNat * (6)) (fun (_ : Nat) => (0 : Int)) 80), (5, VB.cells [VV.slice (.fa (7) 0 0) z1.toNat z1.toNat, VV.slice (.fa (8) 0 0) z1.toNat z1.toNat, VV.nils, VV.nils] 76), (8, VB.fam [] (z1.toNat * (6)) (fun (_ : Nat) => (0 : Int)) 80), (5, VB.cells [VV.slice (.fa (7) 0 0) z1.toNat z1.toNat, VV.nils, VV.nils, VV.nils] 76), (7, VB.fam [] (z1.toNat * (6)) (fun (_ : Nat) => (0 : Int)) 80), (6, VB.cells [VV.slice (.own (5) 0) (4) (4)] 75), (6, VB.cells [VV.nils] 75), (5, VB.cells [VV.nils, VV.nils, VV.nils, VV.nils] 76), (4, VB.cells [I z1] 3), (4, VB.cells [I 0] 3), (3, VB.cells [VV.ptr (.own (2) 0)] 72), (3, VB.cells [VV.nilp] 72), (2, VB.cells (stD l :: tsL t) 74), (1, VB.cells [VV.tl [D0, D1, D2, D3].length 1 (pthG [D0, D1, D2, D3])] 26), (0, VB.cells [VV.tl t.T.length 1 (dG t.T), I t.far, I t.least] 25)]
def hpn4_4 (D0 : List Int) (D1 : List Int) (D2 : List Int) (D3 : List Int) (l : List Stk) (s : St) (t : Tst) : VH := let z1 := (↑([D0, D1, D2, D3].getD (Int.toNat (0 : Int)) []).length : Int); VH.mk (15) ((7, VB.fam [] (D0.length * 6) (s.M 0) 80) :: (8, VB.fam [] (D0.length * 6) (s.M 1) 80) :: (9, VB.fam [] (D0.length * 6) (s.M 2) 80) :: (10, VB.fam [] (D0.length * 6) (s.M 3) 80) :: (11, VB.map kS PK.bool s.es) :: (13, VB.cells [VV.func 44 [] [VV.ptr (.own (4) 0), VV.ptr (.own (12) 0), VV.ptr (.own (1) 0), VV.ptr (.own (14) 0)]] 78) :: (14, VB.cells [VV.func 40 [] [VV.ptr (.own (3) 0), VV.ptr (.own (13) 0), VV.ptr (.own (1) 0), VV.ptr (.own (6) 0)]] 88) :: (14, VB.cells [VV.nilf] 88) :: (13, VB.cells [VV.nilf] 78) :: (12, VB.cells [VV.mp (11)] 77) :: (12, VB.cells [VV.opq (Value.map none)] 77) :: (11, VB.map ([PK.int IntKind.i64] ++ ([PK.int IntKind.i64] ++ ((List.replicate 6 [PK.int IntKind.i64]).flatten ++ []))) PK.bool []) :: (5, VB.cells [VV.slice (.fa (7) 0 0) z1.toNat z1.toNat, VV.slice (.fa (8) 0 0) z1.toNat z1.toNat, VV.slice (.fa (9) 0 0) z1.toNat z1.toNat, VV.slice (.fa (10) 0 0) z1.toNat z1.toNat] 76) :: ([(10, VB.fam [] (z1.toNat * (6)) (fun (_ : Nat) => (0 : Int)) 80)] ++ (5, VB.cells [VV.slice (.fa (7) 0 0) z1.toNat z1.toNat, VV.slice (.fa (8) 0 0) z1.toNat z1.toNat, VV.slice (.fa (9) 0 0) z1.toNat z1.toNat, VV.nils] 76) :: ([(9, VB.fam [] (z1.toNat * (6)) (fun (_ : Nat) => (0 : Int)) 80)] ++ (5, VB.cells [VV.slice (.fa (7) 0 0) z1.toNat z1.toNat, VV.slice (.fa (8) 0 0) z1.toNat z1.toNat, VV.nils, VV.nils] 76) :: ([(8, VB.fam [] (z1.toNat * (6)) (fun (_ : Nat) => (0 : Int)) 80)] ++ (5, VB.cells [VV.slice (.fa (7) 0 0) z1.toNat z1.toNat, VV.nils, VV.nils, VV.nils] 76) :: ([(7, VB.fam [] (z1.toNat * (6)) (fun (_ : Nat) => (0 : Int)) 80)] ++ [(6, VB.cells [VV.slice (.own (5) 0) (4) (4)] 75), (6, VB.cells [VV.nils] 75), (5, VB.cells [VV.nils, VV.nils, VV.nils, VV.nils] 76), (4, VB.cells [I z1] 3), (4, VB.cells [I 0] 3), (3, VB.cells [VV.ptr (.own (2) 0)] 72), (3, VB.cells [VV.nilp] 72), (2, VB.cells (stD l :: tsL t) 74), (1, VB.cells [VV.tl [D0, D1, D2, D3].length 1 (pthG [D0, D1, D2, D3])] 26), (0, VB.cells [VV.tl t.T.length 1 (dG t.T), I t.far, I t.least] 25)])))))
def hpn4_5 (D0 : List Int) (M : Mde) (l : List Stk) : VH := VH.mk (18) ((17, VB.vec 1 ((oneL 1 [VV.tl D0.length 1 (rowG l.length M 0)])) (1) 26) :: (16, VB.vec 1 ((oneL 1 [VV.tl D0.length 1 (rowG l.length M 0)])) (1) 26) :: (15, VB.gone) :: (15 :: nsPl4).zip (VB.vec D0.length (rowG l.length M 0) 1 23 :: BPl4 D0.length M))
theorem pq4_ev (l : List Stk) (t : Tst) (D0 D1 D2 D3 : List Int) (Q : VRes -> VH -> Prop) : callN Try.prog (tabS [asR l t, casksR l t, apR [D0, D1, D2, D3], findR4 l t [D0, D1, D2, D3] D0.length D0.length, listT]) (atF 17 [(5, lCp4 l t [D0, D1, D2, D3] D0.length)]) 10 20 0 (.fn 17) [stD l, .agg (tsL t), pthD [D0, D1, D2, D3]] ⟨0, []⟩ (fun r h => Q r h) =
 (let z2 := ([D0, D1, D2, D3].getD (Int.toNat (0 : Int)) []);
 let z1 := (↑z2.length : Int);
 let z3 := ((0 : Int) + (1 : Int) + (1 : Int) + (1 : Int));
 (isD (hpn4_1 D0 D1 D2 D3 t) 2 (VV.tl l.length 5 (stG l)) (stD l) /\ isD (hpn4_1 D0 D1 D2 D3 t) 2 (VV.agg [VV.tl t.T.length 1 (dG t.T), I t.far, I t.least]) (VV.agg (tsL t)) /\ bif !okAll l t then
 Q (.ret (.tup [VV.nils, I 1])) (hpn4_1 D0 D1 D2 D3 t)
 else isD (hpn4_1 D0 D1 D2 D3 t) 4 (VV.tl [D0, D1, D2, D3].length 1 (pthG [D0, D1, D2, D3])) (pthD [D0, D1, D2, D3]) /\ pthB [D0, D1, D2, D3] /\ bif !okPaths [D0, D1, D2, D3] then
 Q (.ret (.tup [VV.nils, I 2])) (hpn4_1 D0 D1 D2 D3 t)
 else bif decide ((0 : Int) <= z1 /\ z1 = z1) then
 bif roomB z1.toNat (48) then
 bif decide ((0 : Int) <= z1 /\ z1 = z1) then
 bif roomB z1.toNat (48) then
 bif decide ((0 : Int) <= z1 /\ z1 = z1) then
 bif roomB z1.toNat (48) then
 bif decide ((0 : Int) <= z1 /\ z1 = z1) then
 bif roomB z1.toNat (48) then
 isD (maskH [0, 1, 2, 3, 4, 5, 6, 7, 8, 9, 10, 11, 12, 13, 14] (hpn4_2 D0 D1 D2 D3 l t)) 4 (VV.ptr (.own (2) 0)) (VV.tp (stD l :: tsL t)) /\ l.length <= 6 /\ ∃ (S' : Nat), ∃ (a : Nat -> Int), ∃ (M : Mde), ∃ (es : Lst), (VV.ptr (.own 4 0) = VV.ptr (.own 4 0) /\ VV.ptr (.own 12 0) = VV.ptr (.own 12 0) /\ VV.ptr (.own 1 0) = VV.ptr (.own 1 0) /\ VV.ptr (.own 14 0) = VV.ptr (.own 14 0)) /\ (0 = 0 /\ 15 <= 15) /\ atL nsB4 (BP4 l t [D0, D1, D2, D3] D0.length M es) (hpn4_2 D0 D1 D2 D3 l t) /\ ((0 : Int) = (↑D0.length : Int) - (↑D0.length : Int) /\ (1 : Int) * (2 : Int) ^ min (↑[D0, D1, D2, D3].length : Int).toNat IntKind.i64.bits - (1 : Int) = (↑S' : Int) /\ [I (mostF l 0), I (mostF l 1), I (mostF l 2), I (mostF l 3), I (mostF l 4), I (mostF l 5)] = nL a) /\ PreF l t [D0, D1, D2, D3] D0.length D0.length S' a es /\ ∀ (b : Bool) (s : St), PostF l t [D0, D1, D2, D3] D0.length D0.length S' a M b s -> bif !b then
 Q (.ret (.tup [VV.nils, I 4])) (hpn4_3 D0 D1 D2 D3 l s t)
 else ∃ (M : Mde), FitP 0 (hpn4_4 D0 D1 D2 D3 l s t) [(73, I 0), (72, I (↑z1.toNat : Int)), (71, VV.slice (.fa (7) 0 0) z1.toNat z1.toNat), (18, VV.nils), (17, VV.slice (.fa (7) 0 0) z1.toNat z1.toNat), (70, VV.slice (.fa (7) 0 0) z1.toNat z1.toNat), (69, VV.ptr (.own (5) 0)), (68, VV.bool true), (68, VV.bool (decide ((0 : Int) < (↑(4) : Int)))), (67, I 0), (66, I (↑(4) : Int)), (65, VV.slice (.own (5) 0) (4) (4)), (15, VV.nils), (64, VV.bool false), (64, VV.bool !b), (63, VV.bool b), (62, VV.agg [I 0, I ((1 : Int) * (2 : Int) ^ min (↑[D0, D1, D2, D3].length : Int).toNat IntKind.i64.bits - (1 : Int)), I (mostF l 0), I (mostF l 1), I (mostF l 2), I (mostF l 3), I (mostF l 4), I (mostF l 5)]), (61, VV.agg (nL (mostF l))), (60, VV.ptr (.own (2) 0)), (59, I ((1 : Int) * (2 : Int) ^ min (↑[D0, D1, D2, D3].length : Int).toNat IntKind.i64.bits - (1 : Int))), (58, I ((1 : Int) * (2 : Int) ^ min (↑[D0, D1, D2, D3].length : Int).toNat IntKind.i64.bits)), (57, I (↑[D0, D1, D2, D3].length : Int)), (56, VV.tl [D0, D1, D2, D3].length 1 (pthG [D0, D1, D2, D3])), (55, VV.func 44 [] [VV.ptr (.own (4) 0), VV.ptr (.own (12) 0), VV.ptr (.own (1) 0), VV.ptr (.own (14) 0)]), (54, VV.func 44 [] [VV.ptr (.own (4) 0), VV.ptr (.own (12) 0), VV.ptr (.own (1) 0), VV.ptr (.own (14) 0)]), (14, VV.ptr (.own (14) 0)), (53, VV.func 40 [] [VV.ptr (.own (3) 0), VV.ptr (.own (13) 0), VV.ptr (.own (1) 0), VV.ptr (.own (6) 0)]), (13, VV.ptr (.own (13) 0)), (12, VV.ptr (.own (12) 0)), (52, VV.mp (11)), (44, VV.bool false), (44, VV.bool (decide ((0 : Int) + (1 : Int) + (1 : Int) + (1 : Int) + (1 : Int) < (↑(4) : Int)))), (43, I ((0 : Int) + (1 : Int) + (1 : Int) + (1 : Int) + (1 : Int))), (51, I ((0 : Int) + (1 : Int) + (1 : Int) + (1 : Int) + (1 : Int))), (50, VV.ptr (.own (5) (3))), (49, VV.slice (.fa (10) 0 0) z1.toNat z1.toNat), (48, I z1), (47, I z3), (46, VV.slice (.own (5) 0) (4) (4)), (11, I z3), (45, I z3), (44, VV.bool true), (44, VV.bool (decide ((0 : Int) + (1 : Int) + (1 : Int) + (1 : Int) < (↑(4) : Int)))), (43, I z3), (51, I z3), (50, VV.ptr (.own (5) (2))), (49, VV.slice (.fa (9) 0 0) z1.toNat z1.toNat), (48, I z1), (47, I ((0 : Int) + (1 : Int) + (1 : Int))), (46, VV.slice (.own (5) 0) (4) (4)), (11, I ((0 : Int) + (1 : Int) + (1 : Int))), (45, I ((0 : Int) + (1 : Int) + (1 : Int))), (44, VV.bool true), (44, VV.bool (decide ((0 : Int) + (1 : Int) + (1 : Int) < (↑(4) : Int)))), (43, I ((0 : Int) + (1 : Int) + (1 : Int))), (51, I ((0 : Int) + (1 : Int) + (1 : Int))), (50, VV.ptr (.own (5) (1))), (49, VV.slice (.fa (8) 0 0) z1.toNat z1.toNat), (48, I z1), (47, I ((0 : Int) + (1 : Int))), (46, VV.slice (.own (5) 0) (4) (4)), (11, I ((0 : Int) + (1 : Int))), (45, I ((0 : Int) + (1 : Int))), (44, VV.bool true), (44, VV.bool (decide ((0 : Int) + (1 : Int) < (↑(4) : Int)))), (43, I ((0 : Int) + (1 : Int))), (51, I ((0 : Int) + (1 : Int))), (50, VV.ptr (.own (5) 0)), (49, VV.slice (.fa (7) 0 0) z1.toNat z1.toNat), (48, I z1), (47, I 0), (46, VV.slice (.own (5) 0) (4) (4)), (11, I 0), (45, I 0), (44, VV.bool true), (44, VV.bool (decide ((0 : Int) < (↑(4) : Int)))), (43, I 0), (42, I (↑(4) : Int)), (41, VV.slice (.own (5) 0) (4) (4)), (10, VV.ptr (.own (6) 0)), (40, VV.slice (.own (5) 0) (4) (4)), (39, I (↑[D0, D1, D2, D3].length : Int)), (38, VV.tl [D0, D1, D2, D3].length 1 (pthG [D0, D1, D2, D3])), (9, VV.ptr (.own (4) 0)), (37, I z1), (36, VV.tl z2.length 1 (dG z2)), (35, VV.tp [VV.tl z2.length 1 (dG z2)]), (34, VV.tl [D0, D1, D2, D3].length 1 (pthG [D0, D1, D2, D3])), (8, VV.ptr (.own (3) 0)), (33, VV.ptr (.own (2) 0)), (32, VV.agg (stD l :: tsL t)), (31, VV.agg [VV.tl t.T.length 1 (dG t.T), I t.far, I t.least]), (30, VV.tl l.length 5 (stG l)), (26, VV.bool false), (26, VV.bool !okPaths [D0, D1, D2, D3]), (29, VV.bool !okPaths [D0, D1, D2, D3]), (28, VV.bool (okPaths [D0, D1, D2, D3])), (27, VV.tl [D0, D1, D2, D3].length 1 (pthG [D0, D1, D2, D3])), (21, VV.bool false), (21, VV.bool !okAll l t), (25, VV.bool !okAll l t), (24, VV.bool (okAll l t)), (23, VV.agg [VV.tl t.T.length 1 (dG t.T), I t.far, I t.least]), (22, VV.tl l.length 5 (stG l)), (7, I 0), (6, VV.nils), (5, VV.ptr (.own (1) 0)), (4, VV.ptr (.own 0 0)), (0, stD l), (1, VV.agg (tsL t)), (2, pthD [D0, D1, D2, D3])] (VH.mk 15 (nsPl4.zip (BPl4 D0.length M))) ((18, VV.nils) :: dsPl.zip (VPl l t [D0, D1, D2, D3] D0.length 4 0 VV.nils 0)) /\ ∃ (M_1 : Mde), ∃ (gO : Nat -> List VV), FitP 0 (hpn4_5 D0 M l) ((73, I 0) :: (72, I (↑D0.length : Int)) :: (71, VV.slice (.fa 8 0 0) D0.length D0.length) :: (18, VV.nils) :: (17, VV.slice (.fa 8 0 0) D0.length D0.length) :: (70, VV.slice (.fa 8 0 0) D0.length D0.length) :: (69, VV.ptr (.own 5 (1))) :: (68, VV.bool true) :: (68, VV.bool (decide ((↑0 : Int) + (1 : Int) < (↑4 : Int)))) :: (67, I ((↑0 : Int) + (1 : Int))) :: (89, I ((↑0 : Int) + (1 : Int))) :: (15, VV.sl (17) 1) :: (88, VV.sl (17) 1) :: (87, VV.sl (16) 1) :: (86, VV.tl D0.length 1 (rowG l.length M 0)) :: (85, VV.nils) :: (18, VV.tl D0.length 1 (rowG l.length M 0)) :: (18 :: dsPl).zip (VV.sl 15 D0.length :: VPl l t [D0, D1, D2, D3] D0.length 4 0 VV.nils D0.length)) (VH.mk 18 ((17 :: nsPl4).zip (VB.vec 1 gO 1 26 :: BPl4 D0.length M_1))) ((18, VV.nils) :: dsPl.zip (VPl l t [D0, D1, D2, D3] D0.length 4 1 (VV.sl 17 1) 0)) /\ ∃ (M : Mde), ∃ (gO_1 : Nat -> List VV), FitP 0 (VH.mk (20) ((17, VB.vec (1 + 1) (catG 1 gO (oneL 1 [VV.tl D0.length 1 (rowG l.length M_1 1)])) (1) 26) :: (19, VB.vec 1 ((oneL 1 [VV.tl D0.length 1 (rowG l.length M_1 1)])) (1) 26) :: (18, VB.gone) :: (18 :: 17 :: nsPl4).zip (VB.vec D0.length (rowG l.length M_1 1) 1 23 :: VB.vec 1 gO 1 26 :: BPl4 D0.length M_1))) ((73, I 0) :: (72, I (↑D0.length : Int)) :: (71, VV.slice (.fa 9 0 0) D0.length D0.length) :: (18, VV.nils) :: (17, VV.slice (.fa 9 0 0) D0.length D0.length) :: (70, VV.slice (.fa 9 0 0) D0.length D0.length) :: (69, VV.ptr (.own 5 (2))) :: (68, VV.bool true) :: (68, VV.bool (decide ((↑1 : Int) + (1 : Int) < (↑4 : Int)))) :: (67, I ((↑1 : Int) + (1 : Int))) :: (89, I ((↑1 : Int) + (1 : Int))) :: (15, VV.sl 17 (1 + 1)) :: (88, VV.sl 17 (1 + 1)) :: (87, VV.sl (19) 1) :: (86, VV.tl D0.length 1 (rowG l.length M_1 1)) :: (85, VV.sl 17 1) :: (18, VV.tl D0.length 1 (rowG l.length M_1 1)) :: (18 :: dsPl).zip (VV.sl 18 D0.length :: VPl l t [D0, D1, D2, D3] D0.length 4 1 (VV.sl 17 1) D0.length)) (VH.mk 20 ((17 :: nsPl4).zip (VB.vec 2 gO_1 1 26 :: BPl4 D0.length M))) ((18, VV.nils) :: dsPl.zip (VPl l t [D0, D1, D2, D3] D0.length 4 2 (VV.sl 17 2) 0)) /\ ∃ (M_2 : Mde), ∃ (gO : Nat -> List VV), FitP 0 (VH.mk (22) ((17, VB.vec (2 + 1) (catG 2 gO_1 (oneL 1 [VV.tl D0.length 1 (rowG l.length M 2)])) (1) 26) :: (21, VB.vec 1 ((oneL 1 [VV.tl D0.length 1 (rowG l.length M 2)])) (1) 26) :: (20, VB.gone) :: (20 :: 17 :: nsPl4).zip (VB.vec D0.length (rowG l.length M 2) 1 23 :: VB.vec 2 gO_1 1 26 :: BPl4 D0.length M))) ((73, I 0) :: (72, I (↑D0.length : Int)) :: (71, VV.slice (.fa 10 0 0) D0.length D0.length) :: (18, VV.nils) :: (17, VV.slice (.fa 10 0 0) D0.length D0.length) :: (70, VV.slice (.fa 10 0 0) D0.length D0.length) :: (69, VV.ptr (.own 5 (3))) :: (68, VV.bool true) :: (68, VV.bool (decide ((↑2 : Int) + (1 : Int) < (↑4 : Int)))) :: (67, I ((↑2 : Int) + (1 : Int))) :: (89, I ((↑2 : Int) + (1 : Int))) :: (15, VV.sl 17 (2 + 1)) :: (88, VV.sl 17 (2 + 1)) :: (87, VV.sl (21) 1) :: (86, VV.tl D0.length 1 (rowG l.length M 2)) :: (85, VV.sl 17 2) :: (18, VV.tl D0.length 1 (rowG l.length M 2)) :: (18 :: dsPl).zip (VV.sl 20 D0.length :: VPl l t [D0, D1, D2, D3] D0.length 4 2 (VV.sl 17 2) D0.length)) (VH.mk 22 ((17 :: nsPl4).zip (VB.vec 3 gO 1 26 :: BPl4 D0.length M_2))) ((18, VV.nils) :: dsPl.zip (VPl l t [D0, D1, D2, D3] D0.length 4 3 (VV.sl 17 3) 0)) /\ Q (.ret (.tup [VV.sl 17 (3 + 1), I 0])) (VH.mk (24) [(17, VB.vec (3 + 1) (catG 3 gO (oneL 1 [VV.tl D0.length 1 (rowG l.length M_2 3)])) (1) 26), (23, VB.vec 1 ((oneL 1 [VV.tl D0.length 1 (rowG l.length M_2 3)])) (1) 26), (22, VB.gone), (22, VB.vec D0.length (rowG l.length M_2 3) 1 23), (17, VB.vec 3 gO 1 26), (5, VB.cells [VV.slice (.fa 7 0 0) D0.length D0.length, VV.slice (.fa 8 0 0) D0.length D0.length, VV.slice (.fa 9 0 0) D0.length D0.length, VV.slice (.fa 10 0 0) D0.length D0.length] 76), (7, VB.fam [] (D0.length * 6) (M_2 0) 80), (8, VB.fam [] (D0.length * 6) (M_2 1) 80), (9, VB.fam [] (D0.length * 6) (M_2 2) 80), (10, VB.fam [] (D0.length * 6) (M_2 3) 80)])
 else False
 else False
 else False
 else False
 else False
 else False
 else False
 else False)) := by kernel_rfl
section
variable {l : List Stk} {t : Tst} {P : List (List Int)} {Y : Nat}
theorem cpr40 {M : Mde} (hY : Y <= 4) (hl6 : l.length <= 6) : LSound Try.prog true (.block 5 (.loop (loopB 5 (bodyOf Try.prog 17)))) (ntOf Try.prog 17) (fun lock tt h K => FitP lock h tt ⟨15, nsPl4.zip (BPl4 Y M)⟩ ((18, .nils) :: dsPl.zip (VPl l t P Y 4 0 .nils 0)) /\ K .normal ((18, .tl Y 1 (rowG l.length M 0)) :: (18 :: dsPl).zip (.sl 15 Y :: VPl l t P Y 4 0 .nils Y)) ⟨16, (15, .gone) :: (15 :: nsPl4).zip (.vec Y (rowG l.length M 0) 1 23 :: (BPl4 Y M))⟩) := by
 refine copy_row (n := 15) (ns := nsPl4) (BL := (BPl4 Y M)) rfl ?_ rfl
 refine loop_row hmix (noL_good (tab1 listT_ok)) (un := 10) (ds := 18 :: dsPl) (ns := 15 :: nsPl4) (nx := 16) (fun y : Nat => .sl 15 y :: VPl l t P Y 4 0 .nils y) (fun y => .vec y (rowG l.length M 0) 1 23 :: (BPl4 Y M)) (fun y => y <= Y) (fun y => Y - y) (fun _ ex vs bs => ex = .exit 5 /\ bs = .vec Y (rowG l.length M 0) 1 23 :: (BPl4 Y M) /\ vs = .sl 15 Y :: VPl l t P Y 4 0 .nils Y) noL_ok ?_ ?_
 ·rintro y h0
  refine cast (cp40_ev l t P Y y M _ _).symm ?_
  refine cond_d (fun hy => cond_dk ⟨by omega, by omega⟩ (cond_dk (by omega) ⟨fun j => M 0 (y * 6 + j), l.length, g6_row, rfl, hl6, cond_k (Nat.beq_refl _) (cond_k (roomC y (by omega)) (cond_r (by omega) ⟨y + 1, by show y + 1 <= Y; omega, by dsimp only; omega, rfl, ⟨⟨rfl, rfl, rfl, fun j hj => cat_row hj⟩, fitBs_refl _⟩, fun _ _ _ h => h⟩))⟩)) (fun hy => ?_)
  obtain rfl : y = Y := by omega
  exact ⟨rfl, rfl, rfl⟩
 ·rintro lock tt h K ⟨hf, k1⟩
  refine ⟨0, hf, Nat.zero_le _, ?_⟩
  rintro ex vs bs ⟨rfl, rfl, rfl⟩
  exact k1
theorem cpr41 {M : Mde} {gO : Nat -> List VV} (hY : Y <= 4) (hl6 : l.length <= 6) : LSound Try.prog true (.block 5 (.loop (loopB 5 (bodyOf Try.prog 17)))) (ntOf Try.prog 17) (fun lock tt h K => FitP lock h tt ⟨18, (17 :: nsPl4).zip (.vec 1 gO 1 26 :: BPl4 Y M)⟩ ((18, .nils) :: dsPl.zip (VPl l t P Y 4 1 (.sl 17 1) 0)) /\ K .normal ((18, .tl Y 1 (rowG l.length M 1)) :: (18 :: dsPl).zip (.sl 18 Y :: VPl l t P Y 4 1 (.sl 17 1) Y)) ⟨19, (18, .gone) :: (18 :: (17 :: nsPl4)).zip (.vec Y (rowG l.length M 1) 1 23 :: (.vec 1 gO 1 26 :: BPl4 Y M))⟩) := by
 refine copy_row (n := 18) (ns := (17 :: nsPl4)) (BL := (.vec 1 gO 1 26 :: BPl4 Y M)) rfl ?_ rfl
 refine loop_row hmix (noL_good (tab1 listT_ok)) (un := 10) (ds := 18 :: dsPl) (ns := 18 :: (17 :: nsPl4)) (nx := 19) (fun y : Nat => .sl 18 y :: VPl l t P Y 4 1 (.sl 17 1) y) (fun y => .vec y (rowG l.length M 1) 1 23 :: (.vec 1 gO 1 26 :: BPl4 Y M)) (fun y => y <= Y) (fun y => Y - y) (fun _ ex vs bs => ex = .exit 5 /\ bs = .vec Y (rowG l.length M 1) 1 23 :: (.vec 1 gO 1 26 :: BPl4 Y M) /\ vs = .sl 18 Y :: VPl l t P Y 4 1 (.sl 17 1) Y) noL_ok ?_ ?_
 ·rintro y h0
  refine cast (cp41_ev l t P Y y M _ _ _).symm ?_
  refine cond_d (fun hy => cond_dk ⟨by omega, by omega⟩ (cond_dk (by omega) ⟨fun j => M 1 (y * 6 + j), l.length, g6_row, rfl, hl6, cond_k (Nat.beq_refl _) (cond_k (roomC y (by omega)) (cond_r (by omega) ⟨y + 1, by show y + 1 <= Y; omega, by dsimp only; omega, rfl, ⟨⟨rfl, rfl, rfl, fun j hj => cat_row hj⟩, fitBs_refl _⟩, fun _ _ _ h => h⟩))⟩)) (fun hy => ?_)
  obtain rfl : y = Y := by omega
  exact ⟨rfl, rfl, rfl⟩
 ·rintro lock tt h K ⟨hf, k1⟩
  refine ⟨0, hf, Nat.zero_le _, ?_⟩
  rintro ex vs bs ⟨rfl, rfl, rfl⟩
  exact k1
theorem cpr42 {M : Mde} {gO : Nat -> List VV} (hY : Y <= 4) (hl6 : l.length <= 6) : LSound Try.prog true (.block 5 (.loop (loopB 5 (bodyOf Try.prog 17)))) (ntOf Try.prog 17) (fun lock tt h K => FitP lock h tt ⟨20, (17 :: nsPl4).zip (.vec 2 gO 1 26 :: BPl4 Y M)⟩ ((18, .nils) :: dsPl.zip (VPl l t P Y 4 2 (.sl 17 2) 0)) /\ K .normal ((18, .tl Y 1 (rowG l.length M 2)) :: (18 :: dsPl).zip (.sl 20 Y :: VPl l t P Y 4 2 (.sl 17 2) Y)) ⟨21, (20, .gone) :: (20 :: (17 :: nsPl4)).zip (.vec Y (rowG l.length M 2) 1 23 :: (.vec 2 gO 1 26 :: BPl4 Y M))⟩) := by
 refine copy_row (n := 20) (ns := (17 :: nsPl4)) (BL := (.vec 2 gO 1 26 :: BPl4 Y M)) rfl ?_ rfl
 refine loop_row hmix (noL_good (tab1 listT_ok)) (un := 10) (ds := 18 :: dsPl) (ns := 20 :: (17 :: nsPl4)) (nx := 21) (fun y : Nat => .sl 20 y :: VPl l t P Y 4 2 (.sl 17 2) y) (fun y => .vec y (rowG l.length M 2) 1 23 :: (.vec 2 gO 1 26 :: BPl4 Y M)) (fun y => y <= Y) (fun y => Y - y) (fun _ ex vs bs => ex = .exit 5 /\ bs = .vec Y (rowG l.length M 2) 1 23 :: (.vec 2 gO 1 26 :: BPl4 Y M) /\ vs = .sl 20 Y :: VPl l t P Y 4 2 (.sl 17 2) Y) noL_ok ?_ ?_
 ·rintro y h0
  refine cast (cp42_ev l t P Y y M _ _ _).symm ?_
  refine cond_d (fun hy => cond_dk ⟨by omega, by omega⟩ (cond_dk (by omega) ⟨fun j => M 2 (y * 6 + j), l.length, g6_row, rfl, hl6, cond_k (Nat.beq_refl _) (cond_k (roomC y (by omega)) (cond_r (by omega) ⟨y + 1, by show y + 1 <= Y; omega, by dsimp only; omega, rfl, ⟨⟨rfl, rfl, rfl, fun j hj => cat_row hj⟩, fitBs_refl _⟩, fun _ _ _ h => h⟩))⟩)) (fun hy => ?_)
  obtain rfl : y = Y := by omega
  exact ⟨rfl, rfl, rfl⟩
 ·rintro lock tt h K ⟨hf, k1⟩
  refine ⟨0, hf, Nat.zero_le _, ?_⟩
  rintro ex vs bs ⟨rfl, rfl, rfl⟩
  exact k1
theorem cpr43 {M : Mde} {gO : Nat -> List VV} (hY : Y <= 4) (hl6 : l.length <= 6) : LSound Try.prog true (.block 5 (.loop (loopB 5 (bodyOf Try.prog 17)))) (ntOf Try.prog 17) (fun lock tt h K => FitP lock h tt ⟨22, (17 :: nsPl4).zip (.vec 3 gO 1 26 :: BPl4 Y M)⟩ ((18, .nils) :: dsPl.zip (VPl l t P Y 4 3 (.sl 17 3) 0)) /\ K .normal ((18, .tl Y 1 (rowG l.length M 3)) :: (18 :: dsPl).zip (.sl 22 Y :: VPl l t P Y 4 3 (.sl 17 3) Y)) ⟨23, (22, .gone) :: (22 :: (17 :: nsPl4)).zip (.vec Y (rowG l.length M 3) 1 23 :: (.vec 3 gO 1 26 :: BPl4 Y M))⟩) := by
 refine copy_row (n := 22) (ns := (17 :: nsPl4)) (BL := (.vec 3 gO 1 26 :: BPl4 Y M)) rfl ?_ rfl
 refine loop_row hmix (noL_good (tab1 listT_ok)) (un := 10) (ds := 18 :: dsPl) (ns := 22 :: (17 :: nsPl4)) (nx := 23) (fun y : Nat => .sl 22 y :: VPl l t P Y 4 3 (.sl 17 3) y) (fun y => .vec y (rowG l.length M 3) 1 23 :: (.vec 3 gO 1 26 :: BPl4 Y M)) (fun y => y <= Y) (fun y => Y - y) (fun _ ex vs bs => ex = .exit 5 /\ bs = .vec Y (rowG l.length M 3) 1 23 :: (.vec 3 gO 1 26 :: BPl4 Y M) /\ vs = .sl 22 Y :: VPl l t P Y 4 3 (.sl 17 3) Y) noL_ok ?_ ?_
 ·rintro y h0
  refine cast (cp43_ev l t P Y y M _ _ _).symm ?_
  refine cond_d (fun hy => cond_dk ⟨by omega, by omega⟩ (cond_dk (by omega) ⟨fun j => M 3 (y * 6 + j), l.length, g6_row, rfl, hl6, cond_k (Nat.beq_refl _) (cond_k (roomC y (by omega)) (cond_r (by omega) ⟨y + 1, by show y + 1 <= Y; omega, by dsimp only; omega, rfl, ⟨⟨rfl, rfl, rfl, fun j hj => cat_row hj⟩, fitBs_refl _⟩, fun _ _ _ h => h⟩))⟩)) (fun hy => ?_)
  obtain rfl : y = Y := by omega
  exact ⟨rfl, rfl, rfl⟩
 ·rintro lock tt h K ⟨hf, k1⟩
  refine ⟨0, hf, Nat.zero_le _, ?_⟩
  rintro ex vs bs ⟨rfl, rfl, rfl⟩
  exact k1
theorem lCp4_ok (hY : Y <= 4) (hl6 : l.length <= 6) : LSound Try.prog true (.block 5 (.loop (loopB 5 (bodyOf Try.prog 17)))) (ntOf Try.prog 17) (lCp4 l t P Y) := by
 intro lock tt h K hK
 unfold lCp4 at hK
 split at hK
 ·obtain ⟨M, hf, k1⟩ := hK
  exact cpr40 hY hl6 lock tt h K ⟨hf, k1⟩
 ·obtain ⟨M, gO, hf, k1⟩ := hK
  exact cpr41 hY hl6 lock tt h K ⟨hf, k1⟩
 ·obtain ⟨M, gO, hf, k1⟩ := hK
  exact cpr42 hY hl6 lock tt h K ⟨hf, k1⟩
 ·obtain ⟨M, gO, hf, k1⟩ := hK
  exact cpr43 hY hl6 lock tt h K ⟨hf, k1⟩
 ·exact hK.elim
end
theorem plp4 {l : List Stk} {t : Tst} {D0 D1 D2 D3 : List Int} (h1 : okAll l t = true) (h2 : okPaths [D0, D1, D2, D3] = true) (cf : Cfg l t [D0, D1, D2, D3] D0.length) (hpb : pthB [D0, D1, D2, D3]) : ∃ r h', CallsV Try.prog 17 [stD l, .agg (tsL t), pthD [D0, D1, D2, D3]] ⟨0, []⟩ r h' /\ PlnK l t [D0, D1, D2, D3] D0.length r h' := by
 have hl6 := cf.hl.1
 have hY := cf.Y4
 have hrm : roomB ((([D0, D1, D2, D3].getD (Int.toNat 0) []).length : Int)).toNat 48 = true := roomY _ hY
 have htab : ∀ f T, tabS [asR l t, casksR l t, apR [D0, D1, D2, D3], findR4 l t [D0, D1, D2, D3] D0.length D0.length, listT] f = some T -> SpOk Try.prog f T := tab_ok _ (fun x hx => by
  simp only [List.mem_cons, List.not_mem_nil, or_false] at hx
  rcases hx with rfl | rfl | rfl | rfl | rfl
  ·exact asR_ok l t
  ·exact casksR_ok l t
  ·exact apR_ok _
  ·exact findR4_ok cf D0.length
  ·exact listT_ok)
 have hall : LoopsOk Try.prog 17 [(5, lCp4 l t [D0, D1, D2, D3] D0.length)] := fun x hx => by
  simp only [List.mem_singleton] at hx
  subst hx
  exact ⟨by kernel_rfl, lCp4_ok hY hl6⟩
 obtain ⟨r, h', hk, hc⟩ := of_callN (callL_good hmix htab hall (un := 10) 20) (f := 17) (args := [stD l, .agg (tsL t), pthD [D0, D1, D2, D3]]) (h := ⟨0, []⟩) (K := PlnK l t [D0, D1, D2, D3] D0.length) (by
  refine cast (pq4_ev l t D0 D1 D2 D3 _).symm ⟨isD_l, ⟨⟨rfl, rfl, fun _ _ => rfl⟩, ⟨rfl, rfl⟩, ⟨rfl, rfl⟩, trivial⟩, cond_i (fun h => by rw [h1] at h; cases h) (fun _ => ⟨⟨rfl, rfl, fun _ _ => rfl⟩, hpb, cond_i (fun h => by rw [h2] at h; cases h) (fun _ => ?_)⟩)⟩
  refine cond_dk ⟨by omega, rfl⟩ (cond_k hrm (cond_dk ⟨by omega, rfl⟩ (cond_k hrm (cond_dk ⟨by omega, rfl⟩ (cond_k hrm (cond_dk ⟨by omega, rfl⟩ (cond_k hrm (⟨hc64 rfl, hl6, 15, mostF l, fun _ _ => 0, [], ⟨rfl, rfl, rfl, rfl⟩, ⟨rfl, Nat.le_refl _⟩, ⟨rfl, rfl, rfl, rfl, rfl, rfl, rfl, rfl, rfl, rfl, rfl, rfl, rfl, rfl, rfl, trivial⟩, ⟨by omega, rfl, rfl⟩, ⟨Nat.le_refl _, (by show 15 < 2 ^ 4; decide), most_left cf.hl, lost_nil⟩, ?_⟩))))))))
  rintro b s ⟨p1, p2, p3, p4⟩
  refine cond_i (fun g => ?_) (fun g => ?_)
  ·have g : b = false := by simpa using g
   subst g
   refine .inl ⟨?_, rfl⟩
   cases hx : planF l t [D0, D1, D2, D3] D0.length D0.length 15 (mostF l) with
   | none => exact hx
   | some x => rw [hx] at p1; cases p1
  ·have g : b = true := by simpa using g
   subst g
   obtain ⟨x, hx⟩ : ∃ x, planF l t [D0, D1, D2, D3] D0.length D0.length 15 (mostF l) = some x := by
    cases hx : planF l t [D0, D1, D2, D3] D0.length D0.length 15 (mostF l) with
    | none => rw [hx] at p1; cases p1
    | some x => exact ⟨x, rfl⟩
   refine ⟨s.M, ⟨⟨rfl, rfl, rfl, ⟨rfl, rfl, rfl, fun _ _ => rfl⟩, ⟨rfl, rfl, rfl, fun _ _ => rfl⟩, ⟨rfl, rfl, rfl, fun _ _ => rfl⟩, ⟨rfl, rfl, rfl, fun _ _ => rfl⟩, trivial⟩, rfl, rfl, rfl, rfl, rfl, rfl, rfl, rfl, rfl, rfl, rfl, rfl, rfl, rfl, rfl, trivial⟩, s.M, _, ⟨⟨rfl, rfl, VB.fit_refl _, VB.fit_refl _, VB.fit_refl _, VB.fit_refl _, VB.fit_refl _, VB.fit_refl _, trivial⟩, rfl, rfl, rfl, rfl, rfl, rfl, rfl, rfl, rfl, rfl, rfl, rfl, rfl, rfl, rfl, trivial⟩, s.M, _, ⟨⟨rfl, rfl, VB.fit_refl _, VB.fit_refl _, VB.fit_refl _, VB.fit_refl _, VB.fit_refl _, VB.fit_refl _, trivial⟩, rfl, rfl, rfl, rfl, rfl, rfl, rfl, rfl, rfl, rfl, rfl, rfl, rfl, rfl, rfl, trivial⟩, s.M, _, ⟨⟨rfl, rfl, VB.fit_refl _, VB.fit_refl _, VB.fit_refl _, VB.fit_refl _, VB.fit_refl _, VB.fit_refl _, trivial⟩, rfl, rfl, rfl, rfl, rfl, rfl, rfl, rfl, rfl, rfl, rfl, rfl, rfl, rfl, rfl, trivial⟩, .inr ⟨x, 17, _, _, hx, rfl, rfl, fun i hi => ?_⟩⟩
   have hi : i < 4 := hi
   match i, hi with
   | 0, _ => exact tl_weak rfl (fun y hy => wk_ch (fun j hj => p4 x hx 0 y j (by omega) rfl (by omega) hy))
   | 1, _ => exact tl_weak rfl (fun y hy => wk_ch (fun j hj => p4 x hx 1 y j (by omega) rfl (by omega) hy))
   | 2, _ => exact tl_weak rfl (fun y hy => wk_ch (fun j hj => p4 x hx 2 y j (by omega) rfl (by omega) hy))
   | 3, _ => exact tl_weak rfl (fun y hy => wk_ch (fun j hj => p4 x hx 3 y j (by omega) rfl (by omega) hy))
   | _ + 4, hi => exact absurd hi (by omega))
 exact ⟨r, h', hc, hk⟩
section
variable {l : List Stk} {t : Tst}
theorem len_1 {α : Type} {d : List α} (h : d.length = 1) : ∃ a, d = [a] := by
 match d, h with
 | [a], _ => exact ⟨a, rfl⟩
theorem len_2 {α : Type} {d : List α} (h : d.length = 2) : ∃ a b, d = [a, b] := by
 match d, h with
 | [a, b], _ => exact ⟨a, b, rfl⟩
theorem len_3 {α : Type} {d : List α} (h : d.length = 3) : ∃ a b c, d = [a, b, c] := by
 match d, h with
 | [a, b, c], _ => exact ⟨a, b, c, rfl⟩
theorem len_4 {α : Type} {d : List α} (h : d.length = 4) : ∃ a b c e, d = [a, b, c, e] := by
 match d, h with
 | [a, b, c, e], _ => exact ⟨a, b, c, e, rfl⟩
theorem pl_1 {d0 : List Int} (ho : okAll l t = true) (hp : okPaths [d0] = true) : PlnOut l t [d0] := by
 obtain ⟨r, h', hc, hk⟩ := plp1 ho hp (cfg_of ho hp) (pthB_of hp)
 exact pln_out ho hp hc hk
theorem pl_2 {d0 d1 : List Int} (ho : okAll l t = true) (hp : okPaths [d0, d1] = true) : PlnOut l t [d0, d1] := by
 obtain ⟨r, h', hc, hk⟩ := plp2 ho hp (cfg_of ho hp) (pthB_of hp)
 exact pln_out ho hp hc hk
theorem pl_3 {d0 d1 d2 : List Int} (ho : okAll l t = true) (hp : okPaths [d0, d1, d2] = true) : PlnOut l t [d0, d1, d2] := by
 obtain ⟨r, h', hc, hk⟩ := plp3 ho hp (cfg_of ho hp) (pthB_of hp)
 exact pln_out ho hp hc hk
theorem pl_4 {d0 d1 d2 d3 : List Int} (ho : okAll l t = true) (hp : okPaths [d0, d1, d2, d3] = true) : PlnOut l t [d0, d1, d2, d3] := by
 obtain ⟨r, h', hc, hk⟩ := plp4 ho hp (cfg_of ho hp) (pthB_of hp)
 exact pln_out ho hp hc hk
theorem pln_v {p : List (List Int)} (hb : pthB p) : PlnOut l t p := by
 cases ho : okAll l t with
 | false => exact plnE_v (.inl ho)
 | true =>
  cases hp : okPaths p with
  | false => exact plnE_v (.inr ⟨hb, hp⟩)
  | true =>
   have h := (paths_of hp).1
   rcases (by omega : p.length = 1 ∨ p.length = 2 ∨ p.length = 3 ∨ p.length = 4) with e | e | e | e
   ·obtain ⟨d0, rfl⟩ := len_1 e
    exact pl_1 ho hp
   ·obtain ⟨d0, d1, rfl⟩ := len_2 e
    exact pl_2 ho hp
   ·obtain ⟨d0, d1, d2, rfl⟩ := len_3 e
    exact pl_3 ho hp
   ·obtain ⟨d0, d1, d2, d3, rfl⟩ := len_4 e
    exact pl_4 ho hp
end
theorem wd_ev (p : List (List Int)) (Q : VRes -> Prop) : callN Try.prog noSpec noL 10 20 0 (.fn 15) [pthD p] ⟨0, []⟩ (fun r _ => Q r) =
 (let z1 := (decide ((↑p.length : Int) > (6 : Int)));
 (bif decide ((0 : Int) < (↑p.length : Int)) then
 bif decide ((0 : Int) <= (0 : Int) /\ (0 : Int) < (↑p.length : Int)) then
 bif decide ((↑(p.getD (Int.toNat (0 : Int)) []).length : Int) > (6 : Int)) then
 Q (.ret (.bool true))
 else bif decide ((0 : Int) + (1 : Int) < (↑p.length : Int)) then
 bif decide ((0 : Int) <= (0 : Int) + (1 : Int) /\ (0 : Int) + (1 : Int) < (↑p.length : Int)) then
 bif decide ((↑(p.getD ((0 : Int) + (1 : Int)).toNat []).length : Int) > (6 : Int)) then
 Q (.ret (.bool true))
 else bif decide ((0 : Int) + (1 : Int) + (1 : Int) < (↑p.length : Int)) then
 bif decide ((0 : Int) <= (0 : Int) + (1 : Int) + (1 : Int) /\ (0 : Int) + (1 : Int) + (1 : Int) < (↑p.length : Int)) then
 bif decide ((↑(p.getD ((0 : Int) + (1 : Int) + (1 : Int)).toNat []).length : Int) > (6 : Int)) then
 Q (.ret (.bool true))
 else bif decide ((0 : Int) + (1 : Int) + (1 : Int) + (1 : Int) < (↑p.length : Int)) then
 bif decide ((0 : Int) <= (0 : Int) + (1 : Int) + (1 : Int) + (1 : Int) /\ (0 : Int) + (1 : Int) + (1 : Int) + (1 : Int) < (↑p.length : Int)) then
 bif decide ((↑(p.getD ((0 : Int) + (1 : Int) + (1 : Int) + (1 : Int)).toNat []).length : Int) > (6 : Int)) then
 Q (.ret (.bool true))
 else bif decide ((0 : Int) + (1 : Int) + (1 : Int) + (1 : Int) + (1 : Int) < (↑p.length : Int)) then
 bif decide ((0 : Int) <= (0 : Int) + (1 : Int) + (1 : Int) + (1 : Int) + (1 : Int) /\ (0 : Int) + (1 : Int) + (1 : Int) + (1 : Int) + (1 : Int) < (↑p.length : Int)) then
 bif decide ((↑(p.getD ((0 : Int) + (1 : Int) + (1 : Int) + (1 : Int) + (1 : Int)).toNat []).length : Int) > (6 : Int)) then
 Q (.ret (.bool true))
 else bif decide ((0 : Int) + (1 : Int) + (1 : Int) + (1 : Int) + (1 : Int) + (1 : Int) < (↑p.length : Int)) then
 bif decide ((0 : Int) <= (0 : Int) + (1 : Int) + (1 : Int) + (1 : Int) + (1 : Int) + (1 : Int) /\ (0 : Int) + (1 : Int) + (1 : Int) + (1 : Int) + (1 : Int) + (1 : Int) < (↑p.length : Int)) then
 bif decide ((↑(p.getD ((0 : Int) + (1 : Int) + (1 : Int) + (1 : Int) + (1 : Int) + (1 : Int)).toNat []).length : Int) > (6 : Int)) then
 Q (.ret (.bool true))
 else bif decide ((0 : Int) + (1 : Int) + (1 : Int) + (1 : Int) + (1 : Int) + (1 : Int) + (1 : Int) < (↑p.length : Int)) then
 bif decide ((0 : Int) <= (0 : Int) + (1 : Int) + (1 : Int) + (1 : Int) + (1 : Int) + (1 : Int) + (1 : Int) /\ (0 : Int) + (1 : Int) + (1 : Int) + (1 : Int) + (1 : Int) + (1 : Int) + (1 : Int) < (↑p.length : Int)) then
 bif decide ((↑(p.getD ((0 : Int) + (1 : Int) + (1 : Int) + (1 : Int) + (1 : Int) + (1 : Int) + (1 : Int)).toNat []).length : Int) > (6 : Int)) then
 Q (.ret (.bool true))
 else bif decide ((0 : Int) + (1 : Int) + (1 : Int) + (1 : Int) + (1 : Int) + (1 : Int) + (1 : Int) + (1 : Int) < (↑p.length : Int)) then
 Q (.ret (.bool z1))
 else Q (.ret (.bool z1))
 else False
 else Q (.ret (.bool z1))
 else False
 else Q (.ret (.bool z1))
 else False
 else Q (.ret (.bool z1))
 else False
 else Q (.ret (.bool z1))
 else False
 else Q (.ret (.bool z1))
 else False
 else Q (.ret (.bool z1))
 else False
 else Q (.ret (.bool z1)))) := by kernel_rfl
def dsRPi : List Nat := [4, 3, 2, 0]
def VRPi (p : List (List Int)) (i k : Nat) : List VV := [I k, I i, .bool false, pthD p]
theorem rpi_ev (p : List (List Int)) (i k : Nat) (X : VEx -> List VV -> List VB -> Prop) : codeE Try.prog (callN Try.prog noSpec noL 10 20) (fun _ => none) true 10 (ntOf Try.prog 33) 0 (loopB 2 (bodyOf Try.prog 33)) (dsRPi.zip (VRPi p i k)) ⟨0, ([] : List Nat).zip []⟩ (obs 0 dsRPi [] X) =
 (bif decide ((0 : Int) <= (↑i : Int) /\ (↑i : Int) < (↑p.length : Int)) then
 bif decide ((↑k : Int) < (↑(p.getD (↑i : Int).toNat []).length : Int)) then
 bif decide ((0 : Int) <= (↑i : Int) /\ (↑i : Int) < (↑p.length : Int)) then
 bif decide ((0 : Int) <= (↑k : Int) /\ (↑k : Int) < (↑(p.getD (↑i : Int).toNat []).length : Int)) then
 bif decide ((0 : Int) <= (p.getD (↑i : Int).toNat []).getD (↑k : Int).toNat (0 : Int)) then
 bif !decide ((p.getD (↑i : Int).toNat []).getD (↑k : Int).toNat (0 : Int) <= (1048576 : Int)) then
 X .ret [I (↑k : Int), I (↑i : Int), VV.bool false, pthD p] []
 else bif inK .i64 ((↑k : Int) + (1 : Int)) then
 X .normal [I ((↑k : Int) + (1 : Int)), I (↑i : Int), VV.bool false, pthD p] []
 else False
 else X .ret [I (↑k : Int), I (↑i : Int), VV.bool false, pthD p] []
 else False
 else False
 else X (.exit 2) [I (↑k : Int), I (↑i : Int), VV.bool false, pthD p] []
 else False) := by kernel_rfl
def lRPi (p : List (List Int)) (i : Nat) : LT := fun lock tt h K =>
 FitP lock h tt ⟨0, ([] : List Nat).zip []⟩ (dsRPi.zip (VRPi p i 0)) /\ (okPaths p = true /\ i < p.length) /\ K .normal (dsRPi.zip (VRPi p i (p.getD i []).length)) ⟨0, ([] : List Nat).zip []⟩
def dsRPo : List Nat := [3, 2, 0]
def VRPo (p : List (List Int)) (i : Nat) : List VV := [I i, .bool false, pthD p]
theorem rpo_ev (p : List (List Int)) (i : Nat) (X : VEx -> List VV -> List VB -> Prop) : codeE Try.prog (callN Try.prog noSpec noL 10 20) (tabB [(2, lRPi p i)]) true 10 (ntOf Try.prog 33) 0 (loopB 0 (bodyOf Try.prog 33)) (dsRPo.zip (VRPo p i)) ⟨0, ([] : List Nat).zip []⟩ (obs 0 dsRPo [] X) =
 (bif decide ((↑i : Int) < (↑p.length : Int)) then
 bif decide ((0 : Int) <= (↑i : Int) /\ (↑i : Int) < (↑p.length : Int)) then
 bif decide ((0 : Int) <= (0 : Int) /\ (0 : Int) < (↑p.length : Int)) then
 bif !decide ((↑(p.getD (↑i : Int).toNat []).length : Int) = (↑(p.getD (Int.toNat (0 : Int)) []).length : Int)) then
 X .ret [I (↑i : Int), VV.bool false, pthD p] []
 else FitP 0 (VH.mk 0 ([].zip [])) (dsRPi.zip (VRPi p i 0)) (VH.mk 0 ([].zip [])) (dsRPi.zip (VRPi p i 0)) /\ (okPaths p = true /\ i < p.length) /\ bif inK .i64 ((↑i : Int) + (1 : Int)) then
 X .normal [I ((↑i : Int) + (1 : Int)), VV.bool false, pthD p] []
 else False
 else False
 else False
 else X (.exit 0) [I (↑i : Int), VV.bool false, pthD p] []) := by kernel_rfl
def lRPo (p : List (List Int)) : LT := fun lock tt h K =>
 FitP lock h tt ⟨0, ([] : List Nat).zip []⟩ (dsRPo.zip (VRPo p 0)) /\ okPaths p = true /\ K .normal (dsRPo.zip (VRPo p p.length)) ⟨0, ([] : List Nat).zip []⟩
theorem rp_ev (p : List (List Int)) (Q : VRes -> Prop) : callN Try.prog noSpec (atF 33 [(0, lRPo p)]) 10 20 0 (.fn 33) [pthD p] ⟨0, []⟩ (fun r _ => Q r) =
 (bif decide ((1 : Int) <= (↑p.length : Int)) then
 bif !decide ((↑p.length : Int) <= (4 : Int)) then
 Q (.ret (.bool false))
 else bif decide ((0 : Int) <= (0 : Int) /\ (0 : Int) < (↑p.length : Int)) then
 bif decide ((1 : Int) <= (↑(p.getD (Int.toNat (0 : Int)) []).length : Int)) then
 bif !decide ((↑(p.getD (Int.toNat (0 : Int)) []).length : Int) <= (4 : Int)) then
 Q (.ret (.bool false))
 else FitP 0 (VH.mk 0 ([].zip [])) (dsRPo.zip (VRPo p 0)) (VH.mk 0 ([].zip [])) (dsRPo.zip (VRPo p 0)) /\ okPaths p = true /\ Q (.ret (.bool true))
 else Q (.ret (.bool false))
 else False
 else Q (.ret (.bool false))) := by kernel_rfl
section
variable {p : List (List Int)}
theorem wide_v : ∃ (b : Bool) (h' : VH), CallsV Try.prog 15 [pthD p] ⟨0, []⟩ (.ret (.bool b)) h' /\ (b = false -> p.length <= 6 /\ ∀ i, (p.getD i []).length <= 6) := by
 obtain ⟨r, h', ⟨b, rfl, hb⟩, hc⟩ := of_callN good0 (f := 15) (args := [pthD p]) (h := ⟨0, []⟩) (K := fun r _ => ∃ b : Bool, r = .ret (.bool b) /\ (b = false -> p.length <= 6 /\ ∀ i, (p.getD i []).length <= 6)) (by
  have hge : ∀ i, p.length <= i -> (p.getD i []).length <= 6 := fun i hi => by
   rw [List.getD_eq_getElem?_getD, List.getElem?_eq_none hi]
   exact Nat.zero_le _
  have en : (∀ i, i < p.length -> (p.getD i []).length <= 6) -> (decide ((p.length : Int) > 6) = false -> p.length <= 6 /\ ∀ i, (p.getD i []).length <= 6) := fun h hd => by
   have hd := of_decide_eq_false hd
   refine ⟨by omega, fun i => ?_⟩
   by_cases hi : i < p.length
   ·exact h i hi
   ·exact hge i (by omega)
  have tr : ∃ b : Bool, VRes.ret (VV.bool true) = .ret (.bool b) /\ (b = false -> p.length <= 6 /\ ∀ i, (p.getD i []).length <= 6) := ⟨true, rfl, fun h => by cases h⟩
  refine cast (wd_ev p _).symm ?_
  refine cond_d (fun a0 => cond_dk ⟨by omega, by omega⟩ (cond_d (fun _ => tr) (fun c0 => ?_))) (fun a0 => ⟨_, rfl, en (fun i hi => by omega)⟩)
  refine cond_d (fun a1 => cond_dk ⟨by omega, by omega⟩ (cond_d (fun _ => tr) (fun c1 => ?_))) (fun a1 => ⟨_, rfl, en (fun i hi => by
   obtain rfl : i = 0 := by omega
   exact Nat.le_of_not_lt (fun h => c0 (by show (6 : Int) < _; exact_mod_cast h)))⟩)
  refine cond_d (fun a2 => cond_dk ⟨by omega, by omega⟩ (cond_d (fun _ => tr) (fun c2 => ?_))) (fun a2 => ⟨_, rfl, en (fun i hi => ?_)⟩)
  rotate_left
  ·rcases (by omega : i = 0 ∨ i = 1) with rfl | rfl
   ·exact Nat.le_of_not_lt (fun h => c0 (by show (6 : Int) < _; exact_mod_cast h))
   ·exact Nat.le_of_not_lt (fun h => c1 (by show (6 : Int) < _; exact_mod_cast h))
  refine cond_d (fun a3 => cond_dk ⟨by omega, by omega⟩ (cond_d (fun _ => tr) (fun c3 => ?_))) (fun a3 => ⟨_, rfl, en (fun i hi => ?_)⟩)
  rotate_left
  ·rcases (by omega : i = 0 ∨ i = 1 ∨ i = 2) with rfl | rfl | rfl
   ·exact Nat.le_of_not_lt (fun h => c0 (by show (6 : Int) < _; exact_mod_cast h))
   ·exact Nat.le_of_not_lt (fun h => c1 (by show (6 : Int) < _; exact_mod_cast h))
   ·exact Nat.le_of_not_lt (fun h => c2 (by show (6 : Int) < _; exact_mod_cast h))
  refine cond_d (fun a4 => cond_dk ⟨by omega, by omega⟩ (cond_d (fun _ => tr) (fun c4 => ?_))) (fun a4 => ⟨_, rfl, en (fun i hi => ?_)⟩)
  rotate_left
  ·rcases (by omega : i = 0 ∨ i = 1 ∨ i = 2 ∨ i = 3) with rfl | rfl | rfl | rfl
   ·exact Nat.le_of_not_lt (fun h => c0 (by show (6 : Int) < _; exact_mod_cast h))
   ·exact Nat.le_of_not_lt (fun h => c1 (by show (6 : Int) < _; exact_mod_cast h))
   ·exact Nat.le_of_not_lt (fun h => c2 (by show (6 : Int) < _; exact_mod_cast h))
   ·exact Nat.le_of_not_lt (fun h => c3 (by show (6 : Int) < _; exact_mod_cast h))
  refine cond_d (fun a5 => cond_dk ⟨by omega, by omega⟩ (cond_d (fun _ => tr) (fun c5 => ?_))) (fun a5 => ⟨_, rfl, en (fun i hi => ?_)⟩)
  rotate_left
  ·rcases (by omega : i = 0 ∨ i = 1 ∨ i = 2 ∨ i = 3 ∨ i = 4) with rfl | rfl | rfl | rfl | rfl
   ·exact Nat.le_of_not_lt (fun h => c0 (by show (6 : Int) < _; exact_mod_cast h))
   ·exact Nat.le_of_not_lt (fun h => c1 (by show (6 : Int) < _; exact_mod_cast h))
   ·exact Nat.le_of_not_lt (fun h => c2 (by show (6 : Int) < _; exact_mod_cast h))
   ·exact Nat.le_of_not_lt (fun h => c3 (by show (6 : Int) < _; exact_mod_cast h))
   ·exact Nat.le_of_not_lt (fun h => c4 (by show (6 : Int) < _; exact_mod_cast h))
  refine cond_d (fun a6 => cond_dk ⟨by omega, by omega⟩ (cond_d (fun _ => tr) (fun _ => ?_))) (fun a6 => ⟨_, rfl, en (fun i hi => ?_)⟩)
  rotate_left
  ·rcases (by omega : i = 0 ∨ i = 1 ∨ i = 2 ∨ i = 3 ∨ i = 4 ∨ i = 5) with rfl | rfl | rfl | rfl | rfl | rfl
   ·exact Nat.le_of_not_lt (fun h => c0 (by show (6 : Int) < _; exact_mod_cast h))
   ·exact Nat.le_of_not_lt (fun h => c1 (by show (6 : Int) < _; exact_mod_cast h))
   ·exact Nat.le_of_not_lt (fun h => c2 (by show (6 : Int) < _; exact_mod_cast h))
   ·exact Nat.le_of_not_lt (fun h => c3 (by show (6 : Int) < _; exact_mod_cast h))
   ·exact Nat.le_of_not_lt (fun h => c4 (by show (6 : Int) < _; exact_mod_cast h))
   ·exact Nat.le_of_not_lt (fun h => c5 (by show (6 : Int) < _; exact_mod_cast h))
  have ne : decide ((p.length : Int) > 6) = true := decide_eq_true (by omega)
  exact cond_d (fun _ => ⟨_, rfl, fun h => by rw [ne] at h; cases h⟩) (fun _ => ⟨_, rfl, fun h => by rw [ne] at h; cases h⟩))
 exact ⟨b, h', hc, hb⟩
theorem lRPi_ok {i : Nat} : LSound Try.prog true (.block 2 (.loop (loopB 2 (bodyOf Try.prog 33)))) (ntOf Try.prog 33) (lRPi p i) := by
 by_cases hh : okPaths p = true /\ i < p.length
 ·obtain ⟨ho, hi⟩ := hh
  obtain ⟨_, hY, hlen, hnd⟩ := paths_of ho
  have hil := hlen i hi
  refine loop_row hmix good0 (un := 10) (ds := dsRPi) (ns := []) (nx := 0) (fun k : Nat => VRPi p i k) (fun _ => []) (fun k => k <= (p.getD i []).length) (fun k => (p.getD i []).length - k) (fun _ ex vs bs => ex = .exit 2 /\ bs = [] /\ vs = VRPi p i (p.getD i []).length) noL_ok ?_ ?_
  ·rintro k h0
   refine cast (rpi_ev p i k _).symm ?_
   rw [show (i : Int).toNat = i by omega, show (k : Int).toNat = k by omega]
   refine cond_dk ⟨by omega, by omega⟩ (cond_d (fun hk => ?_) (fun hk => ?_))
   ·have hn := hnd i k
    exact cond_dk ⟨by omega, by omega⟩ (cond_dk ⟨by omega, by omega⟩ (cond_dk hn.1 (cond_nd (fun h => (h hn.2).elim) (fun _ => cond_r (by omega) ⟨k + 1, by show k + 1 <= _; omega, by dsimp only; omega, rfl, trivial, fun _ _ _ h => h⟩))))
   ·obtain rfl : k = (p.getD i []).length := by omega
    exact ⟨rfl, rfl, rfl⟩
  ·rintro lock tt h K ⟨hf, _, k1⟩
   refine ⟨0, hf, Nat.zero_le _, ?_⟩
   rintro ex vs bs ⟨rfl, rfl, rfl⟩
   exact k1
 ·rintro lock tt h K ⟨hf, hc, _⟩
  exact (hh hc).elim
theorem lsp_RPi {i : Nat} : ∀ id T, tabB [(2, lRPi p i)] id = some T -> ∀ b' ∈ blocksOf id (loopB 0 (bodyOf Try.prog 33)), LSound Try.prog true (.block id b') (ntOf Try.prog 33) T := by
 intro id T hT b' hb
 simp only [tabB] at hT
 cases hid : Nat.beq id 2 with
 | false => rw [hid] at hT; cases hT
 | true =>
  rw [hid] at hT
  have := Nat.eq_of_beq_eq_true hid
  subst this
  cases hT
  have h2 : blocksOf 2 (loopB 0 (bodyOf Try.prog 33)) = [.loop (loopB 2 (bodyOf Try.prog 33))] := by kernel_rfl
  rw [h2] at hb
  simp only [List.mem_singleton] at hb
  subst hb
  exact lRPi_ok
theorem lRPo_ok : LSound Try.prog true (.block 0 (.loop (loopB 0 (bodyOf Try.prog 33)))) (ntOf Try.prog 33) (lRPo p) := by
 by_cases ho : okPaths p = true
 ·obtain ⟨hP, hY, hlen, hnd⟩ := paths_of ho
  refine loop_rowD hmix good0 (un := 10) (ds := dsRPo) (ns := []) (nx := 0) (lsp := fun i : Nat => tabB [(2, lRPi p i)]) (fun i : Nat => VRPo p i) (fun _ => []) (fun i => i <= p.length) (fun i => p.length - i) (fun _ ex vs bs => ex = .exit 0 /\ bs = [] /\ vs = VRPo p p.length) (fun _ _ => lsp_RPi) ?_ ?_
  ·rintro i h0
   refine cast (rpo_ev p i _).symm ?_
   refine cond_d (fun hi => ?_) (fun hi => ?_)
   ·have hl := hlen i (by omega)
    rw [show (i : Int).toNat = i by omega]
    exact cond_dk ⟨by omega, by omega⟩ (cond_dk ⟨by omega, by omega⟩ (cond_nd (fun h => (h (by rw [hl]; rfl)).elim) (fun _ => ⟨fitP_self rfl, ⟨ho, by omega⟩, cond_r (by omega) ⟨i + 1, by show i + 1 <= _; omega, by dsimp only; omega, rfl, trivial, fun _ _ _ h => h⟩⟩)))
   ·obtain rfl : i = p.length := by omega
    exact ⟨rfl, rfl, rfl⟩
  ·rintro lock tt h K ⟨hf, _, k1⟩
   refine ⟨0, hf, Nat.zero_le _, ?_⟩
   rintro ex vs bs ⟨rfl, rfl, rfl⟩
   exact k1
 ·rintro lock tt h K ⟨hf, hc, _⟩
  exact (ho hc).elim
theorem rpaths_v (ho : okPaths p = true) : ∃ h', CallsV Try.prog 33 [pthD p] ⟨0, []⟩ (.ret (.bool true)) h' := by
 have hall : LoopsOk Try.prog 33 [(0, lRPo p)] := fun x hx => by
  simp only [List.mem_singleton] at hx
  subst hx
  exact ⟨by kernel_rfl, lRPo_ok⟩
 obtain ⟨hP, hY, _⟩ := paths_of ho
 have e : (p.getD (Int.toNat 0) []).length = (p.getD 0 []).length := rfl
 obtain ⟨r, h', rfl, hc⟩ := of_callN (callL_good hmix noSp hall (un := 10) 20) (f := 33) (args := [pthD p]) (h := ⟨0, []⟩) (K := fun r _ => r = .ret (.bool true)) (by
  refine cast (rp_ev p _).symm (cond_dk (by omega) (cond_nd (fun h => by omega) (fun _ => cond_dk ⟨by omega, by omega⟩ (cond_dk (by omega) (cond_nd (fun h => by omega) (fun _ => ⟨fitP_self rfl, ho, rfl⟩))))))
  )
 exact ⟨h', hc⟩
end
def wiR (p : List (List Int)) : FuncId × Spec1 := (15, fun _ args h K => match args with
 | [x] => isD h 4 x (pthD p) /\ ∀ b : Bool, (b = false -> p.length <= 6 /\ ∀ i, (p.getD i []).length <= 6) -> K (.ret (.bool b)) h
 | _ => False)
theorem wiR_ok (p : List (List Int)) : SpOk Try.prog (wiR p).1 (wiR p).2 := by
 intro lock args h K hK
 simp only [wiR] at hK
 split at hK
 ·obtain ⟨h1, hK⟩ := hK
  obtain ⟨b, h', hc, hb⟩ := wide_v (p := p)
  exact ⟨_, h, hK b hb, lockP_refl _ _, calls_lendDP 4 hc rfl ⟨h1, trivial⟩⟩
 ·exact hK.elim
def rpY (p : List (List Int)) : FuncId × Spec1 := (33, fun _ args h K => match args with
 | [x] => isD h 4 x (pthD p) /\ okPaths p = true /\ K (.ret (.bool true)) h
 | _ => False)
theorem rpY_ok (p : List (List Int)) : SpOk Try.prog (rpY p).1 (rpY p).2 := by
 intro lock args h K hK
 simp only [rpY] at hK
 split at hK
 ·obtain ⟨h1, h2, hK⟩ := hK
  obtain ⟨h', hc⟩ := rpaths_v h2
  exact ⟨_, h, hK, lockP_refl _ _, calls_lendDP 4 hc rfl ⟨h1, trivial⟩⟩
 ·exact hK.elim
def grY (l : List Stk) (t : Tst) (b : Bool) : FuncId × Spec1 := (14, fun _ args h K => match args with
 | [x, z, .int .i64 m] => isD h 4 x (stD l) /\ isD h 4 z (.agg (tsL t)) /\ greatF l t m = b /\ K (.ret (.bool b)) h
 | _ => False)
section
variable {l : List Stk} {t : Tst} {y m : Int}
end
section
variable {l : List Stk} {t : Tst} {y m : Int} {n : Nat -> Int}
def likeB (l l' : List Stk) : Prop := l'.length = l.length /\ ∀ i, (l'.getD i k0).vol = (l.getD i k0).vol /\ (l'.getD i k0).age = (l.getD i k0).age /\ (l'.getD i k0).cost = (l.getD i k0).cost /\ (l'.getD i k0).prof = (l.getD i k0).prof
theorem like_age {l' : List Stk} (h : likeB l l') : ∀ K, ageF l' n y K = ageF l n y K
 | 0 => rfl
 | K + 1 => by
  unfold ageF
  rw [like_age h K, (h.2 K).2.1]
theorem like_sums {l' : List Stk} (h : likeB l l') : volF l' n = volF l n /\ costF l' n = costF l n /\ (∀ k, loF l' n k = loF l n k) /\ ∀ k, hiF l' n k = hiF l n k := by
 obtain ⟨h1, h2⟩ := h
 unfold volF costF loF hiF
 rw [h1]
 refine ⟨sumF_congr _ (fun i _ => ?_), sumF_congr _ (fun i _ => ?_), fun k => sumF_congr _ (fun i _ => ?_), fun k => sumF_congr _ (fun i _ => ?_)⟩
 ·unfold tmV; rw [(h2 i).1]
 ·unfold tmC; rw [(h2 i).2.2.1]
 ·unfold tmL; rw [(h2 i).1, (h2 i).2.2.2]
 ·unfold tmH; rw [(h2 i).1, (h2 i).2.2.2]
theorem like_KF {l' : List Stk} (h : likeB l l') {b : Bool} : ∀ K, KF l' t n b K = KF l t n b K
 | 0 => rfl
 | K + 1 => by
  obtain ⟨h1, _, h3, h4⟩ := like_sums (n := n) h
  unfold KF
  rw [like_KF h K]
  unfold okF
  rw [h3, h4, h1]
theorem meets_like {l' : List Stk} (h : likeB l l') : meetsF l' t n y m = meetsF l t n y m := by
 obtain ⟨h1, _⟩ := like_sums (n := n) h
 have hk : (vtF l' t n y).k = (vtF l t n y).k := by
  show KF l' t n _ t.T.length = KF l t n _ t.T.length
  rw [like_KF h, h1, like_age h, h.1]
 unfold meetsF
 rw [h1, hk]
end
section
variable {l : List Stk} {t : Tst}
theorem tryF_is {meet : (Nat -> Int) -> Bool} {sub : (Nat -> Int) -> Option Rsl} : ∀ {L : List (Nat -> Int)}, (tryF meet sub L).isSome = true ↔ ∃ c ∈ L, meet c = true /\ (sub c).isSome = true
 | [] => by simp [tryF]
 | c :: r => by
  unfold tryF
  by_cases hm : meet c = true
  ·rw [if_pos hm]
   cases hs : sub c with
   | some x => exact ⟨fun _ => ⟨c, List.mem_cons_self .., hm, by rw [hs]; rfl⟩, fun _ => rfl⟩
   | none =>
    dsimp only
    rw [tryF_is]
    constructor
    ·rintro ⟨d, hd, h⟩; exact ⟨d, List.mem_cons_of_mem _ hd, h⟩
    ·rintro ⟨d, hd, h1, h2⟩
     rcases List.mem_cons.1 hd with rfl | hd
     ·rw [hs] at h2; cases h2
     ·exact ⟨d, hd, h1, h2⟩
  ·rw [if_neg hm, tryF_is]
   constructor
   ·rintro ⟨d, hd, h⟩; exact ⟨d, List.mem_cons_of_mem _ hd, h⟩
   ·rintro ⟨d, hd, h1, h2⟩
    rcases List.mem_cons.1 hd with rfl | hd
    ·exact (hm h1).elim
    ·exact ⟨d, hd, h1, h2⟩
end
theorem grY_ok (l : List Stk) (t : Tst) (b : Bool) : SpOk Try.prog (grY l t b).1 (grY l t b).2 := by
 intro lock args h K hK
 simp only [grY] at hK
 split at hK
 ·obtain ⟨h1, h2, rfl, hK⟩ := hK
  exact greatT_ok lock _ h K ⟨l, t, h1, h2, hK⟩
 ·exact hK.elim
section
variable {l : List Stk} {t : Tst} {m le : Int}
end
section
variable {l : List Stk} {t : Tst} {y m : Int}
end
section
variable {l : List Stk} {t : Tst} {y m : Int}
def rchS (s : Stk) : Stk := ⟨min 6 (s.casks + 1), s.vol, s.age, s.cost, s.prof⟩
def rchL (l : List Stk) (k : Nat) : List Stk := l.set k (rchS (l.getD k k0))
theorem rchL_len {k : Nat} : (rchL l k).length = l.length := List.length_set
theorem rchL_get {k : Nat} (hk : k < l.length) (j : Nat) : (rchL l k).getD j k0 = if j = k then rchS (l.getD k k0) else l.getD j k0 := by
 unfold rchL
 rw [List.getD_eq_getElem?_getD, List.getElem?_set]
 by_cases h : k = j
 ·subst h
  rw [if_pos rfl, if_pos rfl, if_pos hk]
  rfl
 ·rw [if_neg h, if_neg (fun e => h e.symm), <- List.getD_eq_getElem?_getD]
theorem rchL_like {k : Nat} (hk : k < l.length) : likeB l (rchL l k) := by
 refine ⟨rchL_len, fun i => ?_⟩
 rw [rchL_get hk]
 split
 ·rename_i h; subst h; exact ⟨rfl, rfl, rfl, rfl⟩
 ·exact ⟨rfl, rfl, rfl, rfl⟩
theorem rchL_more {k : Nat} (hl : lB l) (hk : k < l.length) (i : Nat) : (l.getD i k0).casks <= ((rchL l k).getD i k0).casks := by
 rw [rchL_get hk]
 split
 ·rename_i h; subst h
  have := (hl.2 i hk).1
  show _ <= min 6 _
  omega
 ·exact Int.le_refl _
theorem rchL_okS {k i : Nat} (hl : lB l) (hk : k < l.length) (h : okS t (l.getD i k0) = true) : okS t ((rchL l k).getD i k0) = true := by
 rw [rchL_get hk]
 split
 ·rename_i e; subst e
  have := (hl.2 i hk).1
  unfold okS rchS at *
  simp only [Bool.and_eq_true, decide_eq_true_eq] at h ⊢
  obtain ⟨⟨_, b⟩, c⟩ := h
  exact ⟨⟨by omega, b⟩, c⟩
 ·exact h
theorem rchL_ok {k : Nat} (hk : k < l.length) (h : okAll l t = true) : okAll (rchL l k) t = true := by
 have hl := (okAll_l h).1
 unfold okAll at h ⊢
 simp only [Bool.and_eq_true, decide_eq_true_eq, Bool.not_eq_true'] at h ⊢
 obtain ⟨⟨h1, h2⟩, h3⟩ := h
 refine ⟨⟨h1, by rw [rchL_len]; exact h2⟩, ?_⟩
 unfold anyS at h3 ⊢
 rw [List.any_eq_false] at h3 ⊢
 intro i hi
 rw [rchL_len] at hi
 have := h3 i hi
 unfold qS at this ⊢
 rw [Bool.not_eq_true', Bool.not_eq_false] at this ⊢
 exact rchL_okS hl hk this
theorem rch_el {k : Nat} {e : Nat -> List VV} (hk : k < l.length) (j : Nat) : atG k (catG 0 e (stG l)) (setL (catG 0 e (stG l) k) 0 [I (min 6 ((l.getD k k0).casks + 1))]) j = stG (rchL l k) j := by
 unfold atG stG
 rw [rchL_get hk]
 by_cases h : j = k
 ·subst h; rw [beq_t rfl, cond_true, if_pos rfl]; rfl
 ·rw [beq_f h, cond_false, if_neg h]; rfl
theorem meets_lm (ho : okAll l t = true) (hy : 0 <= y /\ y <= 100) {c : Nat -> Int} (hn : ∀ i, i < l.length -> 0 <= c i /\ c i <= (l.getD i k0).casks) (hg : ∀ i, l.length <= i -> c i = 0) (h : meetsF l t c y m = true) : lmF l t y m (dC l c) = true := by
 unfold lmF
 rw [chD_dC hg, bldE_of ho hy hn]
 unfold meetsF at h
 split at h
 ·rename_i e
  rw [if_pos e]
  simp only [Bool.and_eq_true, decide_eq_true_eq] at h ⊢
  exact ⟨trivial, h⟩
 ·rename_i e
  rw [if_neg e]
  simp only [Bool.and_eq_true, decide_eq_true_eq, Bool.not_eq_true', decide_eq_false_iff_not] at h ⊢
  exact ⟨trivial, h.2, by omega⟩
end
end Go.Sx.Bln
