/- stream: Md1 Ma1 Ma2 Md2 Md3, in one text. -/
import Derived.Test.YtlboglkgbhjpeaaWW5
namespace Go.Sx.Bln
open Go Go.Sx Go.Proofs
set_option maxRecDepth 1000000
def pthC (p : List (List Int)) : Prop := p.length <= 100000 /\ ∀ i, (p.getD i []).length <= 100000
def plQ (l : List Stk) (t : Tst) (p : List (List Int)) (E : Int) (P : Prop) (R : VRes) : FuncId × Spec1 := (17, fun _ args h K => match args with
 | [.tl L s g, z, .tl L2 s2 g2] => VV.tl L s g = stD l /\ z = .agg (tsL t) /\ VV.tl L2 s2 g2 = pthD p /\ (pthC p /\ plE l t p = E /\ P) /\ K R h
 | [x, z, w] => ∃ (l' : List Stk) (p' : List (List Int)), isD h 4 x (stD l') /\ isD h 4 z (.agg (tsL t)) /\ isD h 4 w (pthD p') /\ pthC p' /\ ∀ e : Int, e = plE l' t p' -> K (.ret (.tup [.any, I e])) h
 | _ => False)
def lmY (l : List Stk) (t : Tst) : FuncId × Spec1 := (31, fun _ args h K => match args with
 | [x, z, .int .i64 y, .int .i64 m, w] => isD h 4 x (stD l) /\ isD h 4 z (.agg (tsL t)) /\ ∃ (D : List Int), isD h 4 w (inD D) /\ lmF l t y m D = true /\ K (.ret (.bool true)) h
 | _ => False)
abbrev yP (p : List (List Int)) : Nat := (p.getD 0 []).length
def dsPA : List Nat := [77, 76, 75, 10, 9, 8, 5, 0, 1, 2, 3]
def VPA (l : List Stk) (t : Tst) (p : List (List Int)) (wh : Int) (x : Rsl) (i : Nat) : List VV := [I i, I p.length, pthD p, I 0, plnD l.length p.length (yP p) x, .bool false, .ptr (.own 0 0), stD l, .agg (tsL t), pthD p, .int .u8 wh]
def VPB (l : List Stk) (t : Tst) (p : List (List Int)) (wh : Int) (x : Rsl) (i : Nat) : List VV := .slice (.fa 1 0 0) l.length l.length :: inD (p.getD i []) :: I i :: VPA l t p wh x i
def BPB (l : List Stk) (t : Tst) (g : Nat -> Int) : List VB := [.cells (tsL t) 25, .fam [] l.length g 3]
def dsPB : List Nat := 87 :: 86 :: 85 :: 13 :: 12 :: 11 :: dsPA
theorem ppb_ev (l : List Stk) (t : Tst) (p : List (List Int)) (wh : Int) (x : Rsl) (i k : Nat) (g : Nat -> Int) (X : VEx -> List VV -> List VB -> Prop) : codeE Try.prog (callN Try.prog noSpec noL 10 20) (fun _ => none) true 10 (ntOf Try.prog 9) 0 (loopB 2 (bodyOf Try.prog 9)) (dsPB.zip (I k :: I l.length :: stD l :: VPB l t p wh x i)) ⟨2, [0, 1].zip (BPB l t g)⟩ (obs 2 dsPB [0, 1] X) =
 (bif decide ((↑k : Int) < (↑l.length : Int)) then
 bif decide ((0 : Int) <= (↑k : Int) /\ (↑k : Int) < (↑l.length : Int)) then
 bif decide ((0 : Int) <= (↑k : Int) /\ (↑k : Int) < (↑l.length : Int)) then
 bif decide (0 + (↑k : Int).toNat * (1) + (1) <= l.length) then
 bif inK .i64 ((↑k : Int) + (1 : Int)) then
 X .normal [I ((↑k : Int) + (1 : Int)), I (↑l.length : Int), stD l, VV.slice (.fa 1 0 0) l.length l.length, VV.tl (p.getD i []).length 1 (dG (p.getD i [])), I (↑i : Int), I (↑i : Int), I (↑p.length : Int), pthD p, I 0, VV.tl p.length 1 (plnG l.length (yP p) x), VV.bool false, VV.ptr (.own 0 0), stD l, VV.agg (tsL t), pthD p, VV.int IntKind.u8 wh] [VB.cells (tsL t) 25, VB.fam [] l.length (setF g (0 + (↑k : Int).toNat * (1)) [(l.getD (↑k : Int).toNat k0).casks]) 3]
 else False
 else False
 else False
 else False
 else X (.exit 2) [I (↑k : Int), I (↑l.length : Int), stD l, VV.slice (.fa 1 0 0) l.length l.length, VV.tl (p.getD i []).length 1 (dG (p.getD i [])), I (↑i : Int), I (↑i : Int), I (↑p.length : Int), pthD p, I 0, VV.tl p.length 1 (plnG l.length (yP p) x), VV.bool false, VV.ptr (.own 0 0), stD l, VV.agg (tsL t), pthD p, VV.int IntKind.u8 wh] [VB.cells (tsL t) 25, VB.fam [] l.length g 3]) := by kernel_rfl
def lPB (l : List Stk) (t : Tst) (p : List (List Int)) (wh : Int) (x : Rsl) (i : Nat) : LT := fun lock tt h K =>
 FitP lock h tt ⟨2, [0, 1].zip (BPB l t (fun _ => 0))⟩ (dsPB.zip (I 0 :: I l.length :: stD l :: VPB l t p wh x i)) /\ lB l /\ K .normal (dsPB.zip (I l.length :: I l.length :: stD l :: VPB l t p wh x i)) ⟨2, [0, 1].zip (BPB l t (mostF l))⟩
def VPC (l : List Stk) (t : Tst) (p : List (List Int)) (wh : Int) (x : Rsl) (i y : Nat) : List VV := I y :: I (p.getD i []).length :: inD (p.getD i []) :: VPB l t p wh x i
def dsPC : List Nat := 108 :: 107 :: 106 :: 13 :: 12 :: 11 :: dsPA
def dsPD : List Nat := 134 :: 133 :: 132 :: dsPC
def VPD (l : List Stk) (t : Tst) (p : List (List Int)) (wh : Int) (x : Rsl) (i y k : Nat) : List VV := I k :: I l.length :: .tl l.length 1 (chG (x i y)) :: VPC l t p wh x i y
theorem ppd_ev (l : List Stk) (t : Tst) (p : List (List Int)) (wh : Int) (x : Rsl) (i y k : Nat) (g : Nat -> Int) (X : VEx -> List VV -> List VB -> Prop) : codeE Try.prog (callN Try.prog noSpec noL 10 20) (fun _ => none) true 10 (ntOf Try.prog 9) 0 (loopB 6 (bodyOf Try.prog 9)) (dsPD.zip (VPD l t p wh x i y k)) ⟨2, [0, 1].zip (BPB l t g)⟩ (obs 2 dsPD [0, 1] X) =
 (let z1 := [I (↑k : Int), I (↑l.length : Int), VV.tl l.length 1 (chG (x i y)), I (↑y : Int), I (↑(p.getD i []).length : Int), VV.tl (p.getD i []).length 1 (dG (p.getD i [])), VV.slice (.fa 1 0 0) l.length l.length, VV.tl (p.getD i []).length 1 (dG (p.getD i [])), I (↑i : Int), I (↑i : Int), I (↑p.length : Int), pthD p, I 0, VV.tl p.length 1 (plnG l.length (yP p) x), VV.bool false, VV.ptr (.own 0 0), stD l, VV.agg (tsL t), pthD p, VV.int IntKind.u8 wh];
 (bif decide ((↑k : Int) < (↑l.length : Int)) then
 bif decide ((0 : Int) <= (↑k : Int) /\ (↑k : Int) < (↑l.length : Int)) then
 bif decide ((0 : Int) <= (↑k : Int) /\ (↑k : Int) < (↑l.length : Int)) then
 bif decide (0 + (↑k : Int).toNat * (1) < l.length) then
 bif inK .i64 (g (0 + (↑k : Int).toNat * (1)) - x i y (↑k : Int).toNat) then
 bif decide ((0 : Int) <= (↑k : Int) /\ (↑k : Int) < (↑l.length : Int)) then
 bif decide (0 + (↑k : Int).toNat * (1) + (1) <= l.length) then
 bif decide ((0 : Int) <= (↑k : Int) /\ (↑k : Int) < (↑l.length : Int)) then
 bif decide (0 + (↑k : Int).toNat * (1) < l.length) then
 bif decide (setF g (0 + (↑k : Int).toNat * (1)) [g (0 + (↑k : Int).toNat * (1)) - x i y (↑k : Int).toNat] (0 + (↑k : Int).toNat * (1)) < (0 : Int)) then
 X .ret z1 [VB.cells (tsL t) 25, VB.fam [] l.length (setF g (0 + (↑k : Int).toNat * (1)) [g (0 + (↑k : Int).toNat * (1)) - x i y (↑k : Int).toNat]) 3]
 else bif inK .i64 ((↑k : Int) + (1 : Int)) then
 X .normal [I ((↑k : Int) + (1 : Int)), I (↑l.length : Int), VV.tl l.length 1 (chG (x i y)), I (↑y : Int), I (↑(p.getD i []).length : Int), VV.tl (p.getD i []).length 1 (dG (p.getD i [])), VV.slice (.fa 1 0 0) l.length l.length, VV.tl (p.getD i []).length 1 (dG (p.getD i [])), I (↑i : Int), I (↑i : Int), I (↑p.length : Int), pthD p, I 0, VV.tl p.length 1 (plnG l.length (yP p) x), VV.bool false, VV.ptr (.own 0 0), stD l, VV.agg (tsL t), pthD p, VV.int IntKind.u8 wh] [VB.cells (tsL t) 25, VB.fam [] l.length (setF g (0 + (↑k : Int).toNat * (1)) [g (0 + (↑k : Int).toNat * (1)) - x i y (↑k : Int).toNat]) 3]
 else False
 else False
 else False
 else False
 else False
 else False
 else False
 else False
 else False
 else X (.exit 6) z1 [VB.cells (tsL t) 25, VB.fam [] l.length g 3])) := by kernel_rfl
def lPD (l : List Stk) (t : Tst) (p : List (List Int)) (wh : Int) (x : Rsl) (i y : Nat) (g : Nat -> Int) : LT := fun lock tt h K =>
 FitP lock h tt ⟨2, [0, 1].zip (BPB l t g)⟩ (dsPD.zip (VPD l t p wh x i y 0)) /\ (l.length <= 6 /\ ∀ j, j < l.length -> (0 <= x i y j /\ x i y j <= g j) /\ g j <= 6) /\ K .normal (dsPD.zip (VPD l t p wh x i y l.length)) ⟨2, [0, 1].zip (BPB l t (lsF g (x i y) l.length))⟩
theorem ppc_ev (l : List Stk) (t : Tst) (p : List (List Int)) (wh : Int) (x : Rsl) (i y : Nat) (g : Nat -> Int) (X : VEx -> List VV -> List VB -> Prop) : codeE Try.prog (callN Try.prog (tabS [lmY l t]) noL 10 20) (tabB [(6, lPD l t p wh x i y g)]) true 10 (ntOf Try.prog 9) 0 (loopB 4 (bodyOf Try.prog 9)) (dsPC.zip (VPC l t p wh x i y)) ⟨2, [0, 1].zip (BPB l t g)⟩ (obs 2 dsPC [0, 1] X) =
 (bif decide ((↑y : Int) < (↑(p.getD i []).length : Int)) then
 bif decide ((0 : Int) <= (↑y : Int) /\ (↑y : Int) < (↑(p.getD i []).length : Int)) then
 bif decide ((0 : Int) <= (↑i : Int) /\ (↑i : Int) < (↑p.length : Int)) then
 bif decide ((0 : Int) <= (↑y : Int) /\ (↑y : Int) < (↑(yP p) : Int)) then
 isD (VH.mk 2 ([0, 1].zip (BPB l t g))) 4 (stD l) (stD l) /\ isD (VH.mk 2 ([0, 1].zip (BPB l t g))) 4 (VV.agg (tsL t)) (VV.agg (tsL t)) /\ ∃ (D : List Int), isD (VH.mk 2 ([0, 1].zip (BPB l t g))) 4 (VV.tl l.length 1 (chG (x (↑i : Int).toNat (↑y : Int).toNat))) (inD D) /\ lmF l t (↑y : Int) ((p.getD i []).getD (↑y : Int).toNat (0 : Int)) D = true /\ bif decide ((0 : Int) <= (↑i : Int) /\ (↑i : Int) < (↑p.length : Int)) then
 bif decide ((0 : Int) <= (↑y : Int) /\ (↑y : Int) < (↑(yP p) : Int)) then
 FitP 0 (VH.mk 2 ([0, 1].zip (BPB l t g))) (dsPD.zip (VPD l t p wh x i y 0)) (VH.mk 2 ([0, 1].zip (BPB l t g))) (dsPD.zip (VPD l t p wh x i y 0)) /\ (l.length <= 6 /\ ∀ (j : Nat), j < l.length -> ((0 : Int) <= x i y j /\ x i y j <= g j) /\ ((6 : Int) - g j).NonNeg) /\ bif inK .i64 ((↑y : Int) + (1 : Int)) then
 X .normal [I ((↑y : Int) + (1 : Int)), I (↑(p.getD i []).length : Int), VV.tl (p.getD i []).length 1 (dG (p.getD i [])), VV.slice (.fa 1 0 0) l.length l.length, VV.tl (p.getD i []).length 1 (dG (p.getD i [])), I (↑i : Int), I (↑i : Int), I (↑p.length : Int), pthD p, I 0, VV.tl p.length 1 (plnG l.length (yP p) x), VV.bool false, VV.ptr (.own 0 0), stD l, VV.agg (tsL t), pthD p, VV.int IntKind.u8 wh] [VB.cells (tsL t) 25, VB.fam [] l.length (lsF g (x i y) l.length) 3]
 else False
 else False
 else False
 else False
 else False
 else False
 else X (.exit 4) [I (↑y : Int), I (↑(p.getD i []).length : Int), VV.tl (p.getD i []).length 1 (dG (p.getD i [])), VV.slice (.fa 1 0 0) l.length l.length, VV.tl (p.getD i []).length 1 (dG (p.getD i [])), I (↑i : Int), I (↑i : Int), I (↑p.length : Int), pthD p, I 0, VV.tl p.length 1 (plnG l.length (yP p) x), VV.bool false, VV.ptr (.own 0 0), stD l, VV.agg (tsL t), pthD p, VV.int IntKind.u8 wh] [VB.cells (tsL t) 25, VB.fam [] l.length g 3]) := by kernel_rfl
def conP (l : List Stk) (t : Tst) (p : List (List Int)) (x : Rsl) : Prop := okAll l t = true /\ okPaths p = true /\ planF l t p (yP p) (yP p) (2 ^ p.length - 1) (mostF l) = some x
def lPC (l : List Stk) (t : Tst) (p : List (List Int)) (wh : Int) (x : Rsl) (i : Nat) : LT := fun lock tt h K =>
 FitP lock h tt ⟨2, [0, 1].zip (BPB l t (mostF l))⟩ (dsPC.zip (VPC l t p wh x i 0)) /\ (conP l t p x /\ i < p.length) /\ ∀ g : Nat -> Int, K .normal (dsPC.zip (VPC l t p wh x i (p.getD i []).length)) ⟨2, [0, 1].zip (BPB l t g)⟩
def dsPE : List Nat := 154 :: 153 :: 12 :: 11 :: dsPA
def VPE (l : List Stk) (t : Tst) (p : List (List Int)) (wh : Int) (x : Rsl) (i k : Nat) : List VV := I k :: I i :: inD (p.getD i []) :: I i :: VPA l t p wh x i
def dsPF : List Nat := 21 :: 20 :: dsPE
def VPF (l : List Stk) (t : Tst) (p : List (List Int)) (wh : Int) (x : Rsl) (i k y : Nat) : List VV := I y :: I k :: VPE l t p wh x i k
theorem ppf_ev (l : List Stk) (t : Tst) (p : List (List Int)) (wh : Int) (x : Rsl) (i k y : Nat) (X : VEx -> List VV -> List VB -> Prop) : codeE Try.prog (callN Try.prog (tabS [inR]) noL 10 20) (fun _ => none) true 10 (ntOf Try.prog 9) 0 (loopB 10 (bodyOf Try.prog 9)) (dsPF.zip (VPF l t p wh x i k y)) ⟨2, [0].zip [.cells (tsL t) 25]⟩ (obs 2 dsPF [0] X) =
 (let z1 := [I (↑y : Int), I (↑k : Int), I (↑k : Int), I (↑i : Int), VV.tl (p.getD i []).length 1 (dG (p.getD i [])), I (↑i : Int), I (↑i : Int), I (↑p.length : Int), pthD p, I 0, VV.tl p.length 1 (plnG l.length (yP p) x), VV.bool false, VV.ptr (.own 0 0), stD l, VV.agg (tsL t), pthD p, VV.int IntKind.u8 wh];
 (bif decide ((↑y : Int) < (↑(p.getD i []).length : Int)) then
 bif decide ((0 : Int) <= (↑k : Int) /\ (↑k : Int) < (↑p.length : Int)) then
 bif decide ((0 : Int) <= (↑y : Int) /\ (↑y : Int) < (↑(p.getD (↑k : Int).toNat []).length : Int)) then
 bif decide ((0 : Int) <= (↑y : Int) /\ (↑y : Int) < (↑(p.getD i []).length : Int)) then
 bif decide ((p.getD (↑k : Int).toNat []).getD (↑y : Int).toNat (0 : Int) = (p.getD i []).getD (↑y : Int).toNat (0 : Int)) then
 bif decide ((0 : Int) <= (↑k : Int) /\ (↑k : Int) < (↑p.length : Int)) then
 bif decide ((0 : Int) <= (↑y : Int) /\ (↑y : Int) < (↑(yP p) : Int)) then
 bif decide ((0 : Int) <= (↑i : Int) /\ (↑i : Int) < (↑p.length : Int)) then
 bif decide ((0 : Int) <= (↑y : Int) /\ (↑y : Int) < (↑(yP p) : Int)) then
 ∃ (L : Nat), ∃ (n : Nat -> Int), isD (VH.mk 2 ([0].zip [VB.cells (tsL t) 25])) 2 (VV.tl l.length 1 (chG (x (↑k : Int).toNat (↑y : Int).toNat))) (d1 L n) /\ isD (VH.mk 2 ([0].zip [VB.cells (tsL t) 25])) 2 (VV.tl l.length 1 (chG (x (↑i : Int).toNat (↑y : Int).toNat))) (d1 L n) /\ L <= 100000 /\ bif inK .i64 ((↑y : Int) + (1 : Int)) then
 X .normal [I ((↑y : Int) + (1 : Int)), I (↑k : Int), I (↑k : Int), I (↑i : Int), VV.tl (p.getD i []).length 1 (dG (p.getD i [])), I (↑i : Int), I (↑i : Int), I (↑p.length : Int), pthD p, I 0, VV.tl p.length 1 (plnG l.length (yP p) x), VV.bool false, VV.ptr (.own 0 0), stD l, VV.agg (tsL t), pthD p, VV.int IntKind.u8 wh] [VB.cells (tsL t) 25]
 else False
 else False
 else False
 else False
 else False
 else X (.exit 10) z1 [VB.cells (tsL t) 25]
 else False
 else False
 else False
 else X (.exit 10) z1 [VB.cells (tsL t) 25])) := by kernel_rfl
def lPF (l : List Stk) (t : Tst) (p : List (List Int)) (wh : Int) (x : Rsl) (i k : Nat) : LT := fun lock tt h K =>
 FitP lock h tt ⟨2, [0].zip [.cells (tsL t) 25]⟩ (dsPF.zip (VPF l t p wh x i k 0)) /\ (conP l t p x /\ k < i /\ i < p.length) /\ ∀ y : Nat, K .normal (dsPF.zip (VPF l t p wh x i k y)) ⟨2, [0].zip [.cells (tsL t) 25]⟩
theorem ppe_ev (l : List Stk) (t : Tst) (p : List (List Int)) (wh : Int) (x : Rsl) (i k : Nat) (X : VEx -> List VV -> List VB -> Prop) : codeE Try.prog (callN Try.prog noSpec noL 10 20) (tabB [(10, lPF l t p wh x i k)]) true 10 (ntOf Try.prog 9) 0 (loopB 8 (bodyOf Try.prog 9)) (dsPE.zip (VPE l t p wh x i k)) ⟨2, [0].zip [.cells (tsL t) 25]⟩ (obs 2 dsPE [0] X) =
 (bif decide ((↑k : Int) < (↑i : Int)) then
 FitP 0 (VH.mk 2 ([0].zip [VB.cells (tsL t) 25])) (dsPF.zip (VPF l t p wh x i k 0)) (VH.mk 2 ([0].zip [VB.cells (tsL t) 25])) (dsPF.zip (VPF l t p wh x i k 0)) /\ (conP l t p x /\ k < i /\ i < p.length) /\ ∀ (y : Nat), bif inK .i64 ((↑k : Int) + (1 : Int)) then
 X .normal [I ((↑k : Int) + (1 : Int)), I (↑i : Int), VV.tl (p.getD i []).length 1 (dG (p.getD i [])), I (↑i : Int), I (↑i : Int), I (↑p.length : Int), pthD p, I 0, VV.tl p.length 1 (plnG l.length (yP p) x), VV.bool false, VV.ptr (.own 0 0), stD l, VV.agg (tsL t), pthD p, VV.int IntKind.u8 wh] [VB.cells (tsL t) 25]
 else False
 else X (.exit 8) [I (↑k : Int), I (↑i : Int), VV.tl (p.getD i []).length 1 (dG (p.getD i [])), I (↑i : Int), I (↑i : Int), I (↑p.length : Int), pthD p, I 0, VV.tl p.length 1 (plnG l.length (yP p) x), VV.bool false, VV.ptr (.own 0 0), stD l, VV.agg (tsL t), pthD p, VV.int IntKind.u8 wh] [VB.cells (tsL t) 25]) := by kernel_rfl
def lPE (l : List Stk) (t : Tst) (p : List (List Int)) (wh : Int) (x : Rsl) (i : Nat) : LT := fun lock tt h K =>
 FitP lock h tt ⟨2, [0].zip [.cells (tsL t) 25]⟩ (dsPE.zip (VPE l t p wh x i 0)) /\ (conP l t p x /\ i < p.length) /\ K .normal (dsPE.zip (VPE l t p wh x i i)) ⟨2, [0].zip [.cells (tsL t) 25]⟩
theorem ppa_ev (l : List Stk) (t : Tst) (p : List (List Int)) (wh : Int) (x : Rsl) (i : Nat) (X : VEx -> List VV -> List VB -> Prop) : codeE Try.prog (callN Try.prog noSpec noL 10 20) (tabB [(2, lPB l t p wh x i), (4, lPC l t p wh x i), (8, lPE l t p wh x i)]) true 10 (ntOf Try.prog 9) 0 (loopB 0 (bodyOf Try.prog 9)) (dsPA.zip (VPA l t p wh x i)) ⟨1, [0].zip [.cells (tsL t) 25]⟩ (obs 1 dsPA [0] X) =
 (bif decide ((↑i : Int) < (↑p.length : Int)) then
 bif decide ((0 : Int) <= (↑i : Int) /\ (↑i : Int) < (↑p.length : Int)) then
 bif decide ((0 : Int) <= (↑l.length : Int) /\ (↑l.length : Int) = (↑l.length : Int)) then
 bif roomB (↑l.length : Int).toNat (8) then
 FitP 0 (VH.mk (2) ((1, VB.fam [] ((↑l.length : Int).toNat * (1)) (fun (_ : Nat) => (0 : Int)) 3) :: [0].zip [VB.cells (tsL t) 25])) ((87, I 0) :: (86, I (↑l.length : Int)) :: (85, stD l) :: (13, VV.slice (.fa (1) 0 0) (↑l.length : Int).toNat (↑l.length : Int).toNat) :: (84, VV.slice (.fa (1) 0 0) (↑l.length : Int).toNat (↑l.length : Int).toNat) :: (83, I (↑l.length : Int)) :: (82, stD l) :: (12, VV.tl (p.getD (↑i : Int).toNat []).length 1 (dG (p.getD (↑i : Int).toNat []))) :: (11, I (↑i : Int)) :: (81, VV.tl (p.getD (↑i : Int).toNat []).length 1 (dG (p.getD (↑i : Int).toNat []))) :: (80, VV.tp [VV.tl (p.getD (↑i : Int).toNat []).length 1 (dG (p.getD (↑i : Int).toNat []))]) :: (79, I (↑i : Int)) :: (78, VV.bool true) :: (78, VV.bool (decide ((↑i : Int) < (↑p.length : Int)))) :: dsPA.zip (VPA l t p wh x i)) (VH.mk 2 ([0, 1].zip (BPB l t fun (_ : Nat) => (0 : Int)))) (dsPB.zip (I 0 :: I (↑l.length : Int) :: stD l :: VPB l t p wh x i)) /\ lB l /\ bif decide ((0 : Int) <= (↑i : Int) /\ (↑i : Int) < (↑p.length : Int)) then
 bif !decide ((↑(yP p) : Int) = (↑(p.getD i []).length : Int)) then
 X .ret [I (↑i : Int), I (↑p.length : Int), pthD p, I 0, VV.tl p.length 1 (plnG l.length (yP p) x), VV.bool false, VV.ptr (.own 0 0), stD l, VV.agg (tsL t), pthD p, VV.int IntKind.u8 wh] [VB.cells (tsL t) 25]
 else FitP 0 (VH.mk 2 ([0, 1].zip (BPB l t (mostF l)))) (dsPC.zip (VPC l t p wh x i 0)) (VH.mk 2 ([0, 1].zip (BPB l t (mostF l)))) (dsPC.zip (VPC l t p wh x i 0)) /\ (conP l t p x /\ i < p.length) /\ ∀ (g : Nat -> Int), FitP 0 (VH.mk 2 ([0].zip [VB.cells (tsL t) 25])) (dsPE.zip (VPE l t p wh x i 0)) (VH.mk 2 ([0].zip [VB.cells (tsL t) 25])) (dsPE.zip (VPE l t p wh x i 0)) /\ (conP l t p x /\ i < p.length) /\ bif inK .i64 ((↑i : Int) + (1 : Int)) then
 X .normal [I ((↑i : Int) + (1 : Int)), I (↑p.length : Int), pthD p, I 0, VV.tl p.length 1 (plnG l.length (yP p) x), VV.bool false, VV.ptr (.own 0 0), stD l, VV.agg (tsL t), pthD p, VV.int IntKind.u8 wh] [VB.cells (tsL t) 25]
 else False
 else False
 else False
 else False
 else False
 else X (.exit 0) [I (↑i : Int), I (↑p.length : Int), pthD p, I 0, VV.tl p.length 1 (plnG l.length (yP p) x), VV.bool false, VV.ptr (.own 0 0), stD l, VV.agg (tsL t), pthD p, VV.int IntKind.u8 wh] [VB.cells (tsL t) 25]) := by kernel_rfl
def lPA (l : List Stk) (t : Tst) (p : List (List Int)) (wh : Int) (x : Rsl) : LT := fun lock tt h K =>
 FitP lock h tt ⟨1, [0].zip [.cells (tsL t) 25]⟩ (dsPA.zip (VPA l t p wh x 0)) /\ conP l t p x /\ K .normal (dsPA.zip (VPA l t p wh x p.length)) ⟨1, [0].zip [.cells (tsL t) 25]⟩
theorem pt0_ev (l : List Stk) (t : Tst) (p : List (List Int)) (wh : Int) (x : Rsl) (Q : VRes -> Prop) : callN Try.prog (tabS [grY l t false, wiR p, plQ l t p 0 (planF l t p (yP p) (yP p) (2 ^ p.length - 1) (mostF l) = some x) (.ret (.tup [plnD l.length p.length (yP p) x, I 0])), rpY p, alT]) (atF 9 [(0, lPA l t p wh x)]) 10 20 0 (.fn 9) [stD l, .agg (tsL t), pthD p, .int .u8 wh] ⟨0, []⟩ (fun r _ => Q r) =
 (let z4 := ((l.getD (remZ wh (↑l.length : Int)).toNat k0).casks + (1 : Int));
 let z3 := (VH.mk (2) ((1, VB.vec (0 + l.length) (atG (remZ wh (↑l.length : Int)).toNat (catG 0 ((oneL 5 [])) (stG l)) (setL (catG 0 ((oneL 5 [])) (stG l) (remZ wh (↑l.length : Int)).toNat) 0 [I (min (6 : Int) z4)])) (5) 32) :: (1, VB.vec (0 + l.length) (catG 0 ((oneL 5 [])) (stG l)) (5) 32) :: (1, VB.vec 0 ((oneL 5 [])) (5) 32) :: [0].zip [VB.cells (tsL t) 25]));
 let z5 := (0 + (remZ wh (↑p.length : Int) - (0 : Int)).toNat + ((↑p.length : Int) - (remZ wh (↑p.length : Int) + (1 : Int))).toNat);
 let z6 := (0 + (remZ wh (↑p.length : Int) - (0 : Int)).toNat);
 let z7 := (catG 0 ((oneL 1 [])) fun (j : Nat) => pthG p (Int.toNat (0 : Int) + j));
 let z1 := (VH.mk (3) ((2, VB.vec (0 + l.length) (atG (remZ wh (↑l.length : Int)).toNat (catG 0 ((oneL 5 [])) (stG l)) (setL (catG 0 ((oneL 5 [])) (stG l) (remZ wh (↑l.length : Int)).toNat) 0 [I (min (6 : Int) z4)])) (5) 32) :: (2, VB.vec (0 + l.length) (catG 0 ((oneL 5 [])) (stG l)) (5) 32) :: (2, VB.vec 0 ((oneL 5 [])) (5) 32) :: (1, VB.vec z5 (catG z6 z7 fun (j : Nat) => pthG p ((remZ wh (↑p.length : Int) + (1 : Int)).toNat + j)) (1) 23) :: (1, VB.vec z6 z7 (1) 23) :: (1, VB.vec 0 ((oneL 1 [])) (1) 23) :: [0].zip [VB.cells (tsL t) 25]));
 let z2 := (VH.mk (2) ((1, VB.vec z5 (catG z6 z7 fun (j : Nat) => pthG p ((remZ wh (↑p.length : Int) + (1 : Int)).toNat + j)) (1) 23) :: (1, VB.vec z6 z7 (1) 23) :: (1, VB.vec 0 ((oneL 1 [])) (1) 23) :: [0].zip [VB.cells (tsL t) 25]));
 (isD (VH.mk (0 + 1) [(0, VB.cells (tsL t) 25)]) 4 (stD l) (stD l) /\ isD (VH.mk (0 + 1) [(0, VB.cells (tsL t) 25)]) 4 (VV.agg (tsL t)) (VV.agg (tsL t)) /\ greatF l t (64 : Int) = false /\ isD (VH.mk (0 + 1) [(0, VB.cells (tsL t) 25)]) 4 (pthD p) (pthD p) /\ ∀ (b : Bool), (b = false -> p.length <= 6 /\ ∀ (i : Nat), (p.getD i []).length <= 6) -> bif b then
 Q (.ret (.bool true))
 else stD l = stD l /\ VV.agg (tsL t) = VV.agg (tsL t) /\ pthD p = pthD p /\ (pthC p /\ plE l t p = (0 : Int) /\ planF l t p (yP p) (yP p) (2 ^ p.length - 1) (mostF l) = some x) /\ isD (VH.mk (0 + 1) [(0, VB.cells (tsL t) 25)]) 4 (pthD p) (pthD p) /\ okPaths p = true /\ bif !decide ((↑p.length : Int) = (↑p.length : Int)) then
 Q (.ret (.bool false))
 else FitP 0 (VH.mk 1 ([0].zip [VB.cells (tsL t) 25])) (dsPA.zip (VPA l t p wh x 0)) (VH.mk 1 ([0].zip [VB.cells (tsL t) 25])) (dsPA.zip (VPA l t p wh x 0)) /\ conP l t p x /\ bif inK .i64 wh then
 bif decide ((↑p.length : Int) = (0 : Int)) then
 False
 else bif decide ((↑p.length : Int) > (1 : Int)) then
 bif decide ((0 : Int) <= (0 : Int) /\ (0 : Int) <= remZ wh (↑p.length : Int) /\ remZ wh (↑p.length : Int) <= (↑p.length : Int)) then
 bif roomB z6 (24) then
 bif inK .i64 (remZ wh (↑p.length : Int) + (1 : Int)) then
 bif decide ((0 : Int) <= remZ wh (↑p.length : Int) + (1 : Int) /\ remZ wh (↑p.length : Int) + (1 : Int) <= (↑p.length : Int) /\ (↑p.length : Int) <= (↑p.length : Int)) then
 bif z6.beq z6 then
 bif roomB z5 (24) then
 ∃ (l' : List Stk), ∃ (p' : List (List Int)), isD z2 4 (stD l) (stD l') /\ isD z2 4 (VV.agg (tsL t)) (VV.agg (tsL t)) /\ isD z2 4 (VV.sl (1) z5) (pthD p') /\ pthC p' /\ ∀ (e : Int), e = plE l' t p' -> bif !decide (e = (0 : Int)) then
 Q (.ret (.bool false))
 else bif decide ((↑l.length : Int) = (0 : Int)) then
 Q (.ret (.bool true))
 else bif inK .i64 wh then
 bif decide ((↑l.length : Int) = (0 : Int)) then
 False
 else bif roomB (0 + l.length) (56) then
 bif decide ((0 : Int) <= remZ wh (↑l.length : Int) /\ remZ wh (↑l.length : Int) < (↑l.length : Int)) then
 bif inK .i64 z4 then
 bif decide ((0 : Int) <= remZ wh (↑l.length : Int) /\ remZ wh (↑l.length : Int) < (↑(0 + l.length) : Int)) then
 bif (0 + l.length).beq (0 + l.length) && Nat.ble 1 Try.prog.types[32].size then
 bif (0 + l.length).beq (0 + l.length) && [I (min (6 : Int) z4)].all VV.one && belL 0 [I (min (6 : Int) z4)] then
 ∃ (l' : List Stk), ∃ (p' : List (List Int)), isD z1 4 (VV.sl (2) (0 + l.length)) (stD l') /\ isD z1 4 (VV.agg (tsL t)) (VV.agg (tsL t)) /\ isD z1 4 (pthD p) (pthD p') /\ pthC p' /\ ∀ (e : Int), e = plE l' t p' -> bif decide (e = (0 : Int)) then
 Q (.ret (.bool true))
 else Q (.ret (.bool false))
 else False
 else False
 else False
 else False
 else False
 else False
 else False
 else False
 else False
 else False
 else False
 else False
 else False
 else bif decide ((↑l.length : Int) = (0 : Int)) then
 Q (.ret (.bool true))
 else bif inK .i64 wh then
 bif decide ((↑l.length : Int) = (0 : Int)) then
 False
 else bif roomB (0 + l.length) (56) then
 bif decide ((0 : Int) <= remZ wh (↑l.length : Int) /\ remZ wh (↑l.length : Int) < (↑l.length : Int)) then
 bif inK .i64 z4 then
 bif decide ((0 : Int) <= remZ wh (↑l.length : Int) /\ remZ wh (↑l.length : Int) < (↑(0 + l.length) : Int)) then
 bif (0 + l.length).beq (0 + l.length) && Nat.ble 1 Try.prog.types[32].size then
 bif (0 + l.length).beq (0 + l.length) && [I (min (6 : Int) z4)].all VV.one && belL 0 [I (min (6 : Int) z4)] then
 ∃ (l' : List Stk), ∃ (p' : List (List Int)), isD z3 4 (VV.sl (1) (0 + l.length)) (stD l') /\ isD z3 4 (VV.agg (tsL t)) (VV.agg (tsL t)) /\ isD z3 4 (pthD p) (pthD p') /\ pthC p' /\ ∀ (e : Int), e = plE l' t p' -> bif decide (e = (0 : Int)) then
 Q (.ret (.bool true))
 else Q (.ret (.bool false))
 else False
 else False
 else False
 else False
 else False
 else False
 else False
 else False)) := by kernel_rfl
theorem pt1_ev (l : List Stk) (t : Tst) (p : List (List Int)) (wh : Int) (Q : VRes -> Prop) : callN Try.prog (tabS [grY l t false, wiR p, plQ l t p 1 True (.ret (.tup [.nils, I 1])), alT]) noL 10 20 0 (.fn 9) [stD l, .agg (tsL t), pthD p, .int .u8 wh] ⟨0, []⟩ (fun r _ => Q r) =
 (isD (VH.mk (0 + 1) [(0, VB.cells (tsL t) 25)]) 4 (stD l) (stD l) /\ isD (VH.mk (0 + 1) [(0, VB.cells (tsL t) 25)]) 4 (VV.agg (tsL t)) (VV.agg (tsL t)) /\ greatF l t (64 : Int) = false /\ isD (VH.mk (0 + 1) [(0, VB.cells (tsL t) 25)]) 4 (pthD p) (pthD p) /\ ∀ (b : Bool), (b = false -> p.length <= 6 /\ ∀ (i : Nat), (p.getD i []).length <= 6) -> bif b then
 Q (.ret (.bool true))
 else stD l = stD l /\ VV.agg (tsL t) = VV.agg (tsL t) /\ pthD p = pthD p /\ (pthC p /\ plE l t p = (1 : Int) /\ True) /\ Q (.ret (.bool true))) := by kernel_rfl
theorem pt2_ev (l : List Stk) (t : Tst) (p : List (List Int)) (wh : Int) (Q : VRes -> Prop) : callN Try.prog (tabS [grY l t false, wiR p, plQ l t p 2 True (.ret (.tup [.nils, I 2])), alT]) noL 10 20 0 (.fn 9) [stD l, .agg (tsL t), pthD p, .int .u8 wh] ⟨0, []⟩ (fun r _ => Q r) =
 (isD (VH.mk (0 + 1) [(0, VB.cells (tsL t) 25)]) 4 (stD l) (stD l) /\ isD (VH.mk (0 + 1) [(0, VB.cells (tsL t) 25)]) 4 (VV.agg (tsL t)) (VV.agg (tsL t)) /\ greatF l t (64 : Int) = false /\ isD (VH.mk (0 + 1) [(0, VB.cells (tsL t) 25)]) 4 (pthD p) (pthD p) /\ ∀ (b : Bool), (b = false -> p.length <= 6 /\ ∀ (i : Nat), (p.getD i []).length <= 6) -> bif b then
 Q (.ret (.bool true))
 else stD l = stD l /\ VV.agg (tsL t) = VV.agg (tsL t) /\ pthD p = pthD p /\ (pthC p /\ plE l t p = (2 : Int) /\ True) /\ Q (.ret (.bool true))) := by kernel_rfl
theorem pt4_ev (l : List Stk) (t : Tst) (p : List (List Int)) (wh : Int) (Q : VRes -> Prop) : callN Try.prog (tabS [grY l t false, wiR p, plQ l t p 4 True (.ret (.tup [.nils, I 4])), alT]) noL 10 20 0 (.fn 9) [stD l, .agg (tsL t), pthD p, .int .u8 wh] ⟨0, []⟩ (fun r _ => Q r) =
 (isD (VH.mk (0 + 1) [(0, VB.cells (tsL t) 25)]) 4 (stD l) (stD l) /\ isD (VH.mk (0 + 1) [(0, VB.cells (tsL t) 25)]) 4 (VV.agg (tsL t)) (VV.agg (tsL t)) /\ greatF l t (64 : Int) = false /\ isD (VH.mk (0 + 1) [(0, VB.cells (tsL t) 25)]) 4 (pthD p) (pthD p) /\ ∀ (b : Bool), (b = false -> p.length <= 6 /\ ∀ (i : Nat), (p.getD i []).length <= 6) -> bif b then
 Q (.ret (.bool true))
 else stD l = stD l /\ VV.agg (tsL t) = VV.agg (tsL t) /\ pthD p = pthD p /\ (pthC p /\ plE l t p = (4 : Int) /\ True) /\ Q (.ret (.bool true))) := by kernel_rfl
theorem ptg_ev (l : List Stk) (t : Tst) (p : List (List Int)) (wh : Int) (Q : VRes -> Prop) : callN Try.prog (tabS [grY l t true, alT]) noL 10 20 0 (.fn 9) [stD l, .agg (tsL t), pthD p, .int .u8 wh] ⟨0, []⟩ (fun r _ => Q r) =
 (isD (VH.mk (0 + 1) [(0, VB.cells (tsL t) 25)]) 4 (stD l) (stD l) /\ isD (VH.mk (0 + 1) [(0, VB.cells (tsL t) 25)]) 4 (VV.agg (tsL t)) (VV.agg (tsL t)) /\ greatF l t (64 : Int) = true /\ Q (.ret (.bool true))) := by kernel_rfl
def noP : List (List Int) := []
theorem ple0_ev (l : List Stk) (t : Tst) (Q : VRes -> VH -> Prop) : callN Try.prog (tabS [asK l t true]) noL 10 20 0 (.fn 17) [stD l, .agg (tsL t), pthD noP] ⟨0, []⟩ (fun r h => Q r h) =
 (isD (VH.mk (2) [(1, VB.cells [VV.tl noP.length 1 (pthG noP)] 26), (0, VB.cells (tsL t) 25)]) 2 (stD l) (stD l) /\ isD (VH.mk (2) [(1, VB.cells [VV.tl noP.length 1 (pthG noP)] 26), (0, VB.cells (tsL t) 25)]) 2 (VV.agg (tsL t)) (VV.agg (tsL t)) /\ okAll l t = true /\ Q (.ret (.tup [VV.nils, I 2])) (VH.mk (3) [(2, VB.cells [VV.tl noP.length 1 (pthG noP)] 26), (1, VB.cells [VV.tl noP.length 1 (pthG noP)] 26), (0, VB.cells (tsL t) 25)])) := by kernel_rfl
section
variable {l : List Stk} {t : Tst} {P : List (List Int)} {Y : Nat}
abbrev ndP (P : List (List Int)) (i y : Nat) : Int := (P.getD i []).getD y 0
def chZ (l : List Stk) (t : Tst) (nd : Nat -> Int) (z : Nat -> Nat -> Int) : Nat -> Nat -> (Nat -> Int) -> Prop
 | 0, _, _ => True
 | k + 1, y, a => z y ∈ allC a l.length /\ meetsF l t (z y) y (nd y) = true /\ chZ l t nd z k (y + 1) (lsF a (z y) 6)
def okZ (l : List Stk) (t : Tst) (P : List (List Int)) (Y k S : Nat) (a : Nat -> Int) (z : Rsl) : Prop :=
 (∀ i, S.testBit i = true -> chZ l t (ndP P i) (z i) k (Y - k) a) /\
  ∀ i i', S.testBit i = true -> S.testBit i' = true -> ∀ y, Y - k <= y -> y < Y -> (∀ y', Y - k <= y' -> y' <= y -> ndP P i y' = ndP P i' y') -> z i y = z i' y
theorem chZ_congr {nd : Nat -> Int} {z z' : Nat -> Nat -> Int} : ∀ {k y : Nat} {a : Nat -> Int}, (∀ y', y <= y' -> z y' = z' y') -> chZ l t nd z k y a -> chZ l t nd z' k y a
 | 0, _, _, _, _ => trivial
 | k + 1, y, a, h, hx => by
  obtain ⟨h1, h2, h3⟩ := hx
  rw [h y (Nat.le_refl _)] at h1 h2 h3
  exact ⟨h1, h2, chZ_congr (fun y' h' => h y' (by omega)) h3⟩
theorem grpF_iff (hP : ndB P) {y rest : Nat} : ∀ n : Nat, ((grpF P y rest n).2 = -1 /\ (grpF P y rest n).1 = 0 /\ ∀ i, i < n -> rest.testBit i = false) ∨ (0 <= (grpF P y rest n).2 /\ (∃ i, i < n /\ rest.testBit i = true /\ ndP P i y = (grpF P y rest n).2) /\ ∀ i, (grpF P y rest n).1.testBit i = true ↔ i < n /\ rest.testBit i = true /\ ndP P i y = (grpF P y rest n).2)
 | 0 => .inl ⟨rfl, rfl, fun i hi => by omega⟩
 | n + 1 => by
  have hn := (hP n y).1
  rcases grpF_iff hP (y := y) (rest := rest) n with ⟨h1, h2, h3⟩ | ⟨h1, ⟨i0, h0⟩, h2⟩
  ·unfold grpF
   by_cases hb : rest.testBit n = true
   ·rw [if_pos ⟨hb, .inl (by omega)⟩]
    dsimp only
    refine .inr ⟨hn, ⟨n, by omega, hb, rfl⟩, fun i => ?_⟩
    rw [h2, Nat.zero_or, Nat.testBit_two_pow]
    simp only [decide_eq_true_eq]
    constructor
    ·rintro rfl; exact ⟨by omega, hb, rfl⟩
    ·rintro ⟨g1, g2, _⟩
     by_cases e : n = i
     ·exact e
     ·rw [h3 i (by omega)] at g2; cases g2
   ·rw [if_neg (fun h => hb h.1)]
    refine .inl ⟨h1, h2, fun i hi => ?_⟩
    by_cases e : i = n
    ·subst e; simpa using hb
    ·exact h3 i (by omega)
  ·unfold grpF
   by_cases hb : rest.testBit n = true /\ ndP P n y = (grpF P y rest n).2
   ·rw [if_pos ⟨hb.1, .inr hb.2⟩]
    dsimp only
    refine .inr ⟨hn, ⟨n, by omega, hb.1, rfl⟩, fun i => ?_⟩
    rw [Nat.testBit_or, Bool.or_eq_true, h2, Nat.testBit_two_pow]
    simp only [decide_eq_true_eq]
    have e2 : (P.getD n []).getD y 0 = (grpF P y rest n).2 := hb.2
    rw [e2]
    constructor
    ·rintro (⟨g1, g2, g3⟩ | rfl)
     ·exact ⟨by omega, g2, g3⟩
     ·exact ⟨by omega, hb.1, hb.2⟩
    ·rintro ⟨g1, g2, g3⟩
     by_cases e : n = i
     ·exact .inr e
     ·exact .inl ⟨by omega, g2, g3⟩
   ·rw [if_neg (fun h => hb ⟨h.1, h.2.resolve_left (by omega)⟩)]
    refine .inr ⟨h1, ⟨i0, by omega, h0.2⟩, fun i => ?_⟩
    rw [h2]
    constructor
    ·rintro ⟨g1, g⟩; exact ⟨by omega, g⟩
    ·rintro ⟨g1, g2, g3⟩
     refine ⟨?_, g2, g3⟩
     rcases Nat.lt_or_ge i n with e | e
     ·exact e
     ·obtain rfl : i = n := by omega
      exact (hb ⟨g2, g3⟩).elim
def isG (P : List (List Int)) (y rest i O : Nat) : Prop := ∀ i', O.testBit i' = true ↔ rest.testBit i' = true /\ ndP P i' y = ndP P i y
theorem grp_of (hP : ndB P) {y rest : Nat} (hr : rest < 2 ^ P.length) (hz : rest ≠ 0) : ∃ i, rest.testBit i = true /\ isG P y rest i (grpF P y rest P.length).1 /\ ndP P i y = (grpF P y rest P.length).2 := by
 have hlt : ∀ i, rest.testBit i = true -> i < P.length := fun i hi => by
  rcases Nat.lt_or_ge i P.length with h | h
  ·exact h
  ·rw [Nat.testBit_lt_two_pow (Nat.lt_of_lt_of_le hr (Nat.pow_le_pow_right (by omega) h))] at hi; cases hi
 rcases grpF_iff hP (y := y) (rest := rest) P.length with ⟨_, _, h3⟩ | ⟨_, ⟨i, h1, h2, h3⟩, h4⟩
 ·exfalso
  apply hz
  apply Nat.eq_of_testBit_eq
  intro i
  rw [Nat.zero_testBit]
  cases hb : rest.testBit i with
  | false => rfl
  | true => rw [h3 i (hlt i hb)] at hb; cases hb
 ·refine ⟨i, h2, fun i' => ?_, h3⟩
  rw [h4, h3]
  exact ⟨fun h => h.2, fun h => ⟨hlt i' h.1, h⟩⟩
theorem restG {y rest i O i' : Nat} (hg : isG P y rest i O) : (rest ^^^ (rest &&& O)).testBit i' = true ↔ rest.testBit i' = true /\ ndP P i' y ≠ ndP P i y := by
 rw [rest_bit, Bool.and_eq_true, Bool.not_eq_true']
 constructor
 ·rintro ⟨h1, h2⟩
  refine ⟨h1, fun e => ?_⟩
  rw [(hg i').2 ⟨h1, e⟩] at h2
  cases h2
 ·rintro ⟨h1, h2⟩
  refine ⟨h1, ?_⟩
  cases hb : O.testBit i' with
  | false => rfl
  | true => exact (h2 ((hg i').1 hb).2).elim
theorem goF_out (hP : ndB P) {fol : Nat -> Int -> Option ((Nat -> Int) × Rsl)} {y : Nat} {x : Rsl} : ∀ (rest : Nat) (acc : Rsl), rest < 2 ^ P.length -> goF fol P y rest rest acc = some x -> (∀ i, rest.testBit i = false -> x i = acc i) /\ ∀ i, rest.testBit i = true -> ∃ O c x', isG P y rest i O /\ fol O (ndP P i y) = some (c, x') /\ ∀ y', x i y' = if y' = y then c else x' i y' := by
 intro rest
 induction rest using Nat.strongRecOn with
 | ind rest ih =>
  intro acc hr hx
  by_cases hz : rest = 0
  ·subst hz
   have hx : some acc = some x := hx
   cases hx
   exact ⟨fun _ _ => rfl, fun i hi => by rw [Nat.zero_testBit] at hi; cases hi⟩
  ·obtain ⟨i0, g1, g2, g3⟩ := grp_of hP (y := y) hr hz
   obtain ⟨s1, s2, s3⟩ := goF_step hP (fol := fol) (y := y) (acc := acc) hr hz
   rw [s3] at hx
   cases hf : fol (grpF P y rest P.length).1 (grpF P y rest P.length).2 with
   | none => rw [hf] at hx; cases hx
   | some cx =>
    obtain ⟨c, x'⟩ := cx
    rw [hf] at hx
    obtain ⟨k1, k2⟩ := ih _ s2 _ (by omega) hx
    have hput : ∀ i y', putR (grpF P y rest P.length).1 y c x' acc i y' = if (grpF P y rest P.length).1.testBit i = true then (if y' = y then c else x' i y') else acc i y' := fun i y' => rfl
    refine ⟨fun i hi => ?_, fun i hi => ?_⟩
    ·have h1 : (rest ^^^ (rest &&& (grpF P y rest P.length).1)).testBit i = false := by rw [rest_bit, hi]; rfl
     rw [k1 i h1]
     funext y'
     rw [hput, if_neg (fun h => by rw [((g2 i).1 h).1] at hi; cases hi)]
    ·by_cases e : ndP P i y = ndP P i0 y
     ·have hO := (g2 i).2 ⟨hi, e⟩
      have h1 : (rest ^^^ (rest &&& (grpF P y rest P.length).1)).testBit i = false := by rw [rest_bit, hO]; simp
      refine ⟨_, c, x', fun i' => by rw [g2, e], by rw [e, g3]; exact hf, fun y' => ?_⟩
      rw [k1 i h1, hput, if_pos hO]
     ·obtain ⟨O, c2, x2, q1, q2, q3⟩ := k2 i ((restG g2).2 ⟨hi, e⟩)
      refine ⟨O, c2, x2, fun i' => ?_, q2, q3⟩
      rw [q1 i', restG g2]
      exact ⟨fun h => ⟨h.1.1, h.2⟩, fun h => ⟨⟨h.1, by rw [h.2]; exact e⟩, h.2⟩⟩
theorem goF_is (hP : ndB P) {fol : Nat -> Int -> Option ((Nat -> Int) × Rsl)} {y : Nat} : ∀ (rest : Nat) (acc : Rsl), rest < 2 ^ P.length -> (∀ i O, rest.testBit i = true -> isG P y rest i O -> (fol O (ndP P i y)).isSome = true) -> (goF fol P y rest rest acc).isSome = true := by
 intro rest
 induction rest using Nat.strongRecOn with
 | ind rest ih =>
  intro acc hr hx
  by_cases hz : rest = 0
  ·subst hz; rfl
  ·obtain ⟨i0, g1, g2, g3⟩ := grp_of hP (y := y) hr hz
   obtain ⟨s1, s2, s3⟩ := goF_step hP (fol := fol) (y := y) (acc := acc) hr hz
   rw [s3]
   have h0 := hx i0 _ g1 g2
   rw [g3] at h0
   cases hf : fol (grpF P y rest P.length).1 (grpF P y rest P.length).2 with
   | none => rw [hf] at h0; cases h0
   | some cx =>
    obtain ⟨c, x'⟩ := cx
    dsimp only
    refine ih _ s2 _ (by omega) (fun i O hi hO => ?_)
    have h1 := (restG g2).1 hi
    refine hx i O h1.1 (fun i' => ?_)
    rw [hO i', restG g2]
    exact ⟨fun h => ⟨h.1.1, h.2⟩, fun h => ⟨⟨h.1, by rw [h.2]; exact h1.2⟩, h.2⟩⟩
theorem tryF_get {meet : (Nat -> Int) -> Bool} {sub : (Nat -> Int) -> Option Rsl} {c : Nat -> Int} {x : Rsl} : ∀ {L : List (Nat -> Int)}, tryF meet sub L = some (c, x) -> c ∈ L /\ meet c = true /\ sub c = some x
 | [], h => by cases h
 | q :: r, h => by
  unfold tryF at h
  by_cases hm : meet q = true
  ·rw [if_pos hm] at h
   cases hs : sub q with
   | some z => rw [hs] at h; cases h; exact ⟨List.mem_cons_self .., hm, hs⟩
   | none => rw [hs] at h; obtain ⟨h1, h2⟩ := tryF_get h; exact ⟨List.mem_cons_of_mem _ h1, h2⟩
  ·rw [if_neg hm] at h
   obtain ⟨h1, h2⟩ := tryF_get h
   exact ⟨List.mem_cons_of_mem _ h1, h2⟩
theorem isG_lt {y rest i O : Nat} (hr : rest < 2 ^ P.length) (hg : isG P y rest i O) : O < 2 ^ P.length := by
 refine Nat.lt_pow_two_of_testBit _ (fun i' hi' => ?_)
 cases hb : O.testBit i' with
 | false => rfl
 | true =>
  have := ((hg i').1 hb).1
  rw [Nat.testBit_lt_two_pow (Nat.lt_of_lt_of_le hr (Nat.pow_le_pow_right (by omega) hi'))] at this
  cases this
theorem plan_ok (hP : ndB P) : ∀ {k S : Nat} {a : Nat -> Int} {x : Rsl}, k <= Y -> S < 2 ^ P.length -> planF l t P Y k S a = some x -> okZ l t P Y k S a x
 | 0, S, a, x, _, _, _ => ⟨fun _ _ => trivial, fun i i' _ _ y h1 h2 => by omega⟩
 | k + 1, S, a, x, hk, hS, hx => by
  obtain ⟨_, h2⟩ := goF_out hP S _ hS (show goF _ P (Y - (k + 1)) S S _ = some x from hx)
  have e1 : ((Y : Int) - (k + 1 : Nat)) = ((Y - (k + 1) : Nat) : Int) := by omega
  have e2 : Y - (k + 1) + 1 = Y - k := by omega
  have key : ∀ i, S.testBit i = true -> ∃ O c x', isG P (Y - (k + 1)) S i O /\ tryF (fun c => meetsF l t c ((Y : Int) - (k + 1 : Nat)) (ndP P i (Y - (k + 1)))) (fun c => planF l t P Y k O (lsF a c 6)) (allC a l.length) = some (c, x') /\ (c ∈ allC a l.length /\ meetsF l t c ((Y - (k + 1) : Nat) : Int) (ndP P i (Y - (k + 1))) = true /\ okZ l t P Y k O (lsF a c 6) x') /\ ∀ y', x i y' = if y' = Y - (k + 1) then c else x' i y' := fun i hi => by
   obtain ⟨O, c, x', q1, q2, q3⟩ := h2 i hi
   obtain ⟨r1, r2, r3⟩ := tryF_get q2
   rw [e1] at r2
   exact ⟨O, c, x', q1, q2, ⟨r1, r2, plan_ok hP (by omega) (isG_lt hS q1) r3⟩, q3⟩
  refine ⟨fun i hi => ?_, fun i i' hi hi' y h3 h4 hag => ?_⟩
  ·obtain ⟨O, c, x', q1, _, ⟨r1, r2, r3⟩, q3⟩ := key i hi
   have ec : x i (Y - (k + 1)) = c := by rw [q3, if_pos rfl]
   refine ⟨by rw [ec]; exact r1, by rw [ec]; exact r2, ?_⟩
   rw [ec, e2]
   exact chZ_congr (fun y' hy' => by rw [q3, if_neg (by omega)]) (r3.1 i ((q1 i).2 ⟨hi, rfl⟩))
  ·obtain ⟨O, c, x', q1, q2, ⟨r1, r2, r3⟩, q3⟩ := key i hi
   obtain ⟨O', c', x'', q1', q2', _, q3'⟩ := key i' hi'
   have hn := hag (Y - (k + 1)) (Nat.le_refl _) h3
   have eO : O' = O := by
    apply Nat.eq_of_testBit_eq
    intro j
    have h5 := q1 j
    have h6 := q1' j
    rw [<- hn] at h6
    cases hb : O.testBit j <;> cases hb' : O'.testBit j <;> simp_all
   subst eO
   rw [<- hn, q2] at q2'
   cases q2'
   by_cases e : y = Y - (k + 1)
   ·rw [q3, q3', if_pos e, if_pos e]
   ·rw [q3, q3', if_neg e, if_neg e]
    exact r3.2 i i' ((q1 i).2 ⟨hi, rfl⟩) ((q1 i').2 ⟨hi', hn.symm⟩) y (by omega) h4 (fun y' h5 h6 => hag y' (by omega) h6)
theorem plan_is (hP : ndB P) {z : Rsl} : ∀ {k S : Nat} {a : Nat -> Int}, k <= Y -> S < 2 ^ P.length -> okZ l t P Y k S a z -> (planF l t P Y k S a).isSome = true
 | 0, _, _, _, _, _ => rfl
 | k + 1, S, a, hk, hS, hz => by
  have e1 : ((Y : Int) - (k + 1 : Nat)) = ((Y - (k + 1) : Nat) : Int) := by omega
  have e2 : Y - (k + 1) + 1 = Y - k := by omega
  show (goF _ P (Y - (k + 1)) S S _).isSome = true
  refine goF_is hP S _ hS (fun i O hi hO => ?_)
  rw [tryF_is]
  obtain ⟨h1, h2, h3⟩ := hz.1 i hi
  refine ⟨z i (Y - (k + 1)), h1, by rw [e1]; exact h2, plan_is hP (z := z) (by omega) (isG_lt hS hO) ⟨fun i' hi' => ?_, fun i' i'' hi' hi'' y h4 h5 hag => ?_⟩⟩
  ·obtain ⟨g1, g2⟩ := (hO i').1 hi'
   have e : z i' (Y - (k + 1)) = z i (Y - (k + 1)) := hz.2 i' i g1 hi _ (Nat.le_refl _) (by omega) (fun y' q1 q2 => by
    obtain rfl : y' = Y - (k + 1) := by omega
    exact g2)
   obtain ⟨_, _, g3⟩ := hz.1 i' g1
   rw [e, e2] at g3
   exact g3
  ·obtain ⟨g1, g2⟩ := (hO i').1 hi'
   obtain ⟨g3, g4⟩ := (hO i'').1 hi''
   refine hz.2 i' i'' g1 g3 y (by omega) h5 (fun y' q1 q2 => ?_)
   by_cases e : y' = Y - (k + 1)
   ·subst e; rw [g2, g4]
   ·exact hag y' (by omega) q2
end
section
variable {l l' : List Stk} {t : Tst} {p : List (List Int)}
theorem okPaths_of {Y : Nat} (h1 : 1 <= p.length /\ p.length <= 4) (hY : 1 <= Y /\ Y <= 4) (h2 : ∀ i, i < p.length -> (p.getD i []).length = Y) (h3 : ndB p) : okPaths p = true := by
 unfold okPaths
 have h0 := h2 0 (by omega)
 simp only [Bool.and_eq_true, decide_eq_true_eq, Bool.not_eq_true']
 refine ⟨⟨h1, by omega⟩, ?_⟩
 unfold anyPt
 rw [List.any_eq_false]
 intro i hi
 have hi := List.mem_range.1 hi
 unfold qPt okPt
 have e : anyNd (p.getD i []) = false := by
  unfold anyNd
  rw [List.any_eq_false]
  intro j _
  unfold qNd okW
  rw [decide_eq_true (h3 i j)]
  simp
 rw [e, decide_eq_true (by rw [h2 i hi, h0])]
 simp
theorem all_bit {n i : Nat} : (2 ^ n - 1).testBit i = decide (i < n) := Nat.testBit_two_pow_sub_one n i
theorem all_lt {n : Nat} : 2 ^ n - 1 < 2 ^ n := by have := Nat.two_pow_pos n; omega
def lessP (p : List (List Int)) (n : Nat) : List (List Int) := p.eraseIdx n
theorem lessP_len {n : Nat} (hn : n < p.length) : (lessP p n).length = p.length - 1 := by unfold lessP; rw [List.length_eraseIdx, if_pos hn]
theorem lessP_get {n : Nat} (j : Nat) : (lessP p n).getD j [] = p.getD (if j < n then j else j + 1) [] := by
 unfold lessP
 rw [List.getD_eq_getElem?_getD, List.getElem?_eraseIdx, List.getD_eq_getElem?_getD]
 split <;> rfl
theorem lessP_ok {n : Nat} (hn : n < p.length) (h1 : 1 < p.length) (ho : okPaths p = true) : okPaths (lessP p n) = true := by
 obtain ⟨hP, hY, hlen, hnd⟩ := paths_of ho
 refine okPaths_of (Y := (p.getD 0 []).length) (by rw [lessP_len hn]; omega) hY (fun i hi => ?_) (fun i j => by rw [lessP_get]; exact hnd _ j)
 rw [lessP_len hn] at hi
 rw [lessP_get]
 exact hlen _ (by split <;> omega)
theorem less_plan {n : Nat} {x : Rsl} (hn : n < p.length) (h1 : 1 < p.length) (ho : okAll l t = true) (hp : okPaths p = true) (hx : planF l t p (p.getD 0 []).length (p.getD 0 []).length (2 ^ p.length - 1) (mostF l) = some x) : plE l t (lessP p n) = 0 := by
 obtain ⟨hP, hY, hlen, hnd⟩ := paths_of hp
 have hok := plan_ok hnd (Nat.le_refl _) all_lt hx
 have hp' := lessP_ok hn h1 hp
 have hY' : ((lessP p n).getD 0 []).length = (p.getD 0 []).length := by
  rw [lessP_get]
  exact hlen _ (by split <;> omega)
 obtain ⟨_, _, _, hnd'⟩ := paths_of hp'
 have hnn : ∀ i y, ndP (lessP p n) i y = ndP p (if i < n then i else i + 1) y := fun i y => by unfold ndP; rw [lessP_get]
 have hb : ∀ i, (2 ^ (lessP p n).length - 1).testBit i = true -> (2 ^ p.length - 1).testBit (if i < n then i else i + 1) = true := fun i hi => by
  rw [all_bit, decide_eq_true_eq, lessP_len hn] at hi
  rw [all_bit, decide_eq_true_eq]
  split <;> omega
 have hz : okZ l t (lessP p n) (p.getD 0 []).length (p.getD 0 []).length (2 ^ (lessP p n).length - 1) (mostF l) (fun i => x (if i < n then i else i + 1)) := by
  refine ⟨fun i hi => ?_, fun i i' hi hi' y h2 h3 hag => ?_⟩
  ·have e : ndP (lessP p n) i = ndP p (if i < n then i else i + 1) := funext (hnn i)
   rw [e]
   exact hok.1 _ (hb i hi)
  ·exact hok.2 _ _ (hb i hi) (hb i' hi') y h2 h3 (fun y' h4 h5 => by have := hag y' h4 h5; rwa [hnn, hnn] at this)
 have hs := plan_is hnd' (Nat.le_refl _) all_lt hz
 cases hx' : planF l t (lessP p n) (p.getD 0 []).length (p.getD 0 []).length (2 ^ (lessP p n).length - 1) (mostF l) with
 | none => rw [hx'] at hs; cases hs
 | some x' => exact plE_s ho hp' (by rw [hY']; exact hx')
theorem chZ_rich (hl : l.length = l'.length) (hk : likeB l l') {nd : Nat -> Int} {z : Nat -> Nat -> Int} : ∀ {k y : Nat} {a a' : Nat -> Int}, (∀ j, j < l.length -> 0 <= a j /\ a j <= a' j) -> chZ l t nd z k y a -> chZ l' t nd z k y a'
 | 0, _, _, _, _, _ => trivial
 | k + 1, y, a, a', h, hx => by
  obtain ⟨h1, h2, h3⟩ := hx
  obtain ⟨g1, g2⟩ := (all_mem (fun i hi => (h i hi).1)).1 h1
  refine ⟨(all_mem (fun i hi => by have := h i (by omega); omega)).2 ⟨fun i hi => by have := g1 i (by omega); have := h i (by omega); omega, fun i hi => g2 i (by omega)⟩, by rw [meets_like hk]; exact h2, chZ_rich hl hk (fun j hj => ?_) h3⟩
  have := g1 j hj
  have := h j hj
  unfold lsF
  split <;> omega
theorem rich_plan {k : Nat} {x : Rsl} (hk : k < l.length) (ho : okAll l t = true) (hp : okPaths p = true) (hx : planF l t p (p.getD 0 []).length (p.getD 0 []).length (2 ^ p.length - 1) (mostF l) = some x) : plE (rchL l k) t p = 0 := by
 obtain ⟨hP, hY, hlen, hnd⟩ := paths_of hp
 have hl := (okAll_l ho).1
 have hok := plan_ok hnd (Nat.le_refl _) all_lt hx
 have hz : okZ (rchL l k) t p (p.getD 0 []).length (p.getD 0 []).length (2 ^ p.length - 1) (mostF (rchL l k)) x :=
  ⟨fun i hi => chZ_rich rchL_len.symm (rchL_like hk) (fun j hj => ⟨((hl.2 j hj).1).1, rchL_more hl hk j⟩) (hok.1 i hi), hok.2⟩
 have hs := plan_is hnd (Nat.le_refl _) all_lt hz
 cases hx' : planF (rchL l k) t p (p.getD 0 []).length (p.getD 0 []).length (2 ^ p.length - 1) (mostF (rchL l k)) with
 | none => rw [hx'] at hs; cases hs
 | some x' => exact plE_s (rchL_ok hk ho) hp hx'
def aZ (a : Nat -> Int) (z : Nat -> Nat -> Int) : Nat -> Nat -> Int
 | 0 => a
 | y + 1 => lsF (aZ a z y) (z y) 6
theorem chZ_at {nd : Nat -> Int} {z : Nat -> Nat -> Int} {a : Nat -> Int} : ∀ {k y : Nat}, chZ l t nd z k y (aZ a z y) -> ∀ n, n < k -> z (y + n) ∈ allC (aZ a z (y + n)) l.length /\ meetsF l t (z (y + n)) ((y + n : Nat) : Int) (nd (y + n)) = true
 | 0, _, _, n, hn => by omega
 | k + 1, y, h, n, hn => by
  obtain ⟨h1, h2, h3⟩ := h
  cases n with
  | zero => exact ⟨h1, h2⟩
  | succ n =>
   have := chZ_at (k := k) (y := y + 1) h3 n (by omega)
   have e : y + 1 + n = y + (n + 1) := by omega
   rw [e] at this
   exact this
theorem aZ_left {nd : Nat -> Int} {z : Nat -> Nat -> Int} (hl : lB l) {Y : Nat} (h : chZ l t nd z Y 0 (mostF l)) : ∀ y, y <= Y -> leftB l (aZ (mostF l) z y) /\ ∀ j, j < l.length -> aZ (mostF l) z y j <= (l.getD j k0).casks
 | 0, _ => ⟨most_left hl, fun _ _ => Int.le_refl _⟩
 | y + 1, hy => by
  obtain ⟨h1, h2⟩ := aZ_left hl h y (by omega)
  have h3 := (chZ_at (a := mostF l) (y := 0) h y (by omega)).1
  rw [Nat.zero_add] at h3
  refine ⟨(left_less h1 h3 hl.1).1, fun j hj => ?_⟩
  have h4 := ((all_mem (fun i hi => (h1.1 i hi).1)).1 h3).1 j hj
  have h5 := h2 j hj
  show lsF (aZ (mostF l) z y) (z y) 6 j <= _
  unfold lsF
  split <;> omega
end
theorem lsp_all {n : Nat} {o : Code} : ∀ {L : List (Nat × LT)}, (∀ x ∈ L, ∃ i, blocksOf x.1 o = [.loop i] /\ LSound Try.prog true (.block x.1 (.loop i)) n x.2) -> ∀ id T, tabB L id = some T -> ∀ b' ∈ blocksOf id o, LSound Try.prog true (.block id b') n T
 | [], _, id, T, hT, _, _ => by cases hT
 | (k, U) :: r, h, id, T, hT, b', hb => by
  simp only [tabB] at hT
  cases hid : Nat.beq id k with
  | true =>
   rw [hid] at hT
   have := Nat.eq_of_beq_eq_true hid
   subst this
   cases hT
   obtain ⟨i, h1, h2⟩ := h _ (List.mem_cons_self ..)
   dsimp only at h1 h2
   rw [h1, List.mem_singleton] at hb
   subst hb
   exact h2
  | false =>
   rw [hid] at hT
   exact lsp_all (fun x hx => h x (List.mem_cons_of_mem _ hx)) id T hT b' hb
theorem setF_one {g : Nat -> Int} {o k : Nat} {v : Int} : setF g o [v] k = if k = o then v else g k := by
 rw [setF_get]
 by_cases h : k = o
 ·subst h
  rw [if_pos ⟨Nat.le_refl _, by simp⟩, if_pos rfl, Nat.sub_self]
  rfl
 ·rw [if_neg (fun h2 => h (by have h2 := h2; simp only [List.length_singleton] at h2; omega)), if_neg h]
section
variable {l : List Stk} {t : Tst} {p : List (List Int)} {wh : Int} {x : Rsl}
def gPB (l : List Stk) (k : Nat) (j : Nat) : Int := if j < k then mostF l j else 0
theorem gPB_0 : gPB l 0 = fun _ => 0 := by funext j; unfold gPB; rw [if_neg (by omega)]
theorem gPB_n : gPB l l.length = mostF l := by
 funext j
 unfold gPB
 split
 ·rfl
 ·rw [mostF_ge (by omega)]
theorem lPB_ok {i : Nat} : LSound Try.prog true (.block 2 (.loop (loopB 2 (bodyOf Try.prog 9)))) (ntOf Try.prog 9) (lPB l t p wh x i) := by
 by_cases hl : lB l
 ·have hl6 := hl.1
  refine loop_row hmix good0 (un := 10) (ds := dsPB) (ns := [0, 1]) (nx := 2) (fun k : Nat => I k :: I l.length :: stD l :: VPB l t p wh x i) (fun k => BPB l t (gPB l k)) (fun k => k <= l.length) (fun k => l.length - k) (fun _ ex vs bs => ex = .exit 2 /\ bs = BPB l t (mostF l) /\ vs = I l.length :: I l.length :: stD l :: VPB l t p wh x i) noL_ok ?_ ?_
  ·rintro k h0
   refine cast (ppb_ev l t p wh x i k _ _).symm ?_
   rw [show (k : Int).toNat = k by omega]
   refine cond_d (fun hk => ?_) (fun hk => ?_)
   ·refine cond_dk ⟨by omega, by omega⟩ (cond_dk ⟨by omega, by omega⟩ (cond_dk (by omega) (cond_r (by omega) ⟨k + 1, by show k + 1 <= _; omega, by dsimp only; omega, rfl, ⟨VB.fit_refl _, ⟨rfl, rfl, rfl, fun j hj => ?_⟩, trivial⟩, fun _ _ _ h => h⟩)))
    rw [setF_one]
    unfold gPB
    by_cases e : j = k
    ·subst e
     rw [if_pos (by omega), if_pos (by omega)]
     rfl
    ·rw [if_neg (by omega)]
     by_cases e2 : j < k
     ·rw [if_pos e2, if_pos (by omega)]
     ·rw [if_neg e2, if_neg (by omega)]
   ·obtain rfl : k = l.length := by omega
    exact ⟨rfl, by rw [gPB_n]; rfl, rfl⟩
  ·rintro lock tt h K ⟨hf, _, k1⟩
   refine ⟨0, by rw [gPB_0]; exact hf, Nat.zero_le _, ?_⟩
   rintro ex vs bs ⟨rfl, rfl, rfl⟩
   exact k1
 ·rintro lock tt h K ⟨hf, hc, _⟩
  exact (hl hc).elim
theorem lPD_ok {i y : Nat} {g : Nat -> Int} : LSound Try.prog true (.block 6 (.loop (loopB 6 (bodyOf Try.prog 9)))) (ntOf Try.prog 9) (lPD l t p wh x i y g) := by
 by_cases hh : l.length <= 6 /\ ∀ j, j < l.length -> (0 <= x i y j /\ x i y j <= g j) /\ g j <= 6
 ·obtain ⟨hl6, hb⟩ := hh
  refine loop_row hmix good0 (un := 10) (ds := dsPD) (ns := [0, 1]) (nx := 2) (fun k : Nat => VPD l t p wh x i y k) (fun k => BPB l t (lsF g (x i y) k)) (fun k => k <= l.length) (fun k => l.length - k) (fun _ ex vs bs => ex = .exit 6 /\ bs = BPB l t (lsF g (x i y) l.length) /\ vs = VPD l t p wh x i y l.length) noL_ok ?_ ?_
  ·rintro k h0
   refine cast (ppd_ev l t p wh x i y k _ _).symm ?_
   rw [show (k : Int).toNat = k by omega]
   refine cond_d (fun hk => ?_) (fun hk => ?_)
   ·have hbk := hb k (by omega)
    have e0 : lsF g (x i y) k (0 + k * 1) = g k := by
     unfold lsF
     rw [if_neg (by omega), show 0 + k * 1 = k by omega]
    have e1 : ∀ v : Int, setF (lsF g (x i y) k) (0 + k * 1) [v] (0 + k * 1) = v := fun v => by rw [setF_one, if_pos rfl]
    refine cond_dk ⟨by omega, by omega⟩ (cond_dk ⟨by omega, by omega⟩ (cond_dk (by omega) (cond_r (by rw [e0]; omega) (cond_dk ⟨by omega, by omega⟩ (cond_dk (by omega) (cond_dk ⟨by omega, by omega⟩ (cond_dk (by omega) (cond_d (fun h => by rw [e1, e0] at h; omega) (fun _ => cond_r (by omega) ⟨k + 1, by show k + 1 <= _; omega, by dsimp only; omega, rfl, ⟨VB.fit_refl _, ⟨rfl, rfl, rfl, fun j hj => ?_⟩, trivial⟩, fun _ _ _ h => h⟩)))))))))
    rw [setF_one, e0]
    unfold lsF
    by_cases e : j = k
    ·subst e
     rw [if_pos (by omega), if_pos (by omega)]
    ·rw [if_neg (by omega)]
     by_cases e2 : j < k
     ·rw [if_pos e2, if_pos (by omega)]
     ·rw [if_neg e2, if_neg (by omega)]
   ·obtain rfl : k = l.length := by omega
    exact ⟨rfl, rfl, rfl⟩
  ·rintro lock tt h K ⟨hf, _, k1⟩
   have e0 : lsF g (x i y) 0 = g := by funext j; unfold lsF; rw [if_neg (by omega)]
   refine ⟨0, by rw [e0]; exact hf, Nat.zero_le _, ?_⟩
   rintro ex vs bs ⟨rfl, rfl, rfl⟩
   exact k1
 ·rintro lock tt h K ⟨hf, hc, _⟩
  exact (hh hc).elim
theorem conP_ok (h : conP l t p x) : okZ l t p (yP p) (yP p) (2 ^ p.length - 1) (mostF l) x := plan_ok (paths_of h.2.1).2.2.2 (Nat.le_refl _) all_lt h.2.2
theorem conP_ch (h : conP l t p x) {i : Nat} (hi : i < p.length) : chZ l t (ndP p i) (x i) (yP p) 0 (mostF l) := by
 have := (conP_ok h).1 i (by rw [all_bit, decide_eq_true hi])
 rwa [Nat.sub_self] at this
theorem lmY_tab : ∀ f T, tabS [lmY l t] f = some T -> SpOk Try.prog f T := tab_ok _ (fun x hx => by
 simp only [List.mem_singleton] at hx
 subst hx
 intro lock args h K hK
 simp only [lmY] at hK
 split at hK
 ·obtain ⟨h1, h2, D, h3, h4, hK⟩ := hK
  exact lmT_ok lock _ h K ⟨l, t, D, h1, h2, h3, by rw [h4]; exact hK⟩
 ·exact hK.elim)
theorem inR_tab : ∀ f T, tabS [inR] f = some T -> SpOk Try.prog f T := tab_ok _ (fun x hx => by
 simp only [List.mem_singleton] at hx
 subst hx
 exact inR_ok)
theorem lPC_ok {i : Nat} : LSound Try.prog true (.block 4 (.loop (loopB 4 (bodyOf Try.prog 9)))) (ntOf Try.prog 9) (lPC l t p wh x i) := by
 by_cases hh : conP l t p x /\ i < p.length
 ·obtain ⟨hc, hi⟩ := hh
  obtain ⟨ho, hp, _⟩ := id hc
  obtain ⟨hl, _⟩ := okAll_l ho
  have hl6 := hl.1
  obtain ⟨hP, hY, hlen, hnd⟩ := paths_of hp
  have hil : (p.getD i []).length = yP p := hlen i hi
  have hch := conP_ch hc hi
  have hY4 : yP p <= 4 := hY.2
  refine loop_rowD hmix (noL_good (lmY_tab (l := l) (t := t))) (un := 10) (ds := dsPC) (ns := [0, 1]) (nx := 2) (lsp := fun y : Nat => tabB [(6, lPD l t p wh x i y (aZ (mostF l) (x i) y))]) (fun y : Nat => VPC l t p wh x i y) (fun y => BPB l t (aZ (mostF l) (x i) y)) (fun y => y <= (p.getD i []).length) (fun y => (p.getD i []).length - y) (fun _ ex vs bs => ex = .exit 4 /\ (∃ g, bs = BPB l t g) /\ vs = VPC l t p wh x i (p.getD i []).length) (fun _ _ => lsp_all (fun q hq => by
   simp only [List.mem_singleton] at hq
   subst hq
   exact ⟨_, by kernel_rfl, lPD_ok⟩)) ?_ ?_
  ·rintro y h0
   refine cast (ppc_ev l t p wh x i y _ _).symm ?_
   rw [show (i : Int).toNat = i by omega, show (y : Int).toNat = y by omega]
   refine cond_d (fun hy => ?_) (fun hy => ?_)
   ·have h1 := chZ_at (a := mostF l) (y := 0) hch y (by omega)
    rw [Nat.zero_add] at h1
    obtain ⟨h2, h3⟩ := aZ_left hl hch y (by omega)
    obtain ⟨h4, h5⟩ := (all_mem (fun j hj => (h2.1 j hj).1)).1 h1.1
    have hlm : lmF l t y ((p.getD i []).getD y 0) (dC l (x i y)) = true := meets_lm ho ⟨by omega, by omega⟩ (fun j hj => by have := h4 j hj; have := h3 j hj; omega) h5 h1.2
    refine cond_dk ⟨by omega, by omega⟩ (cond_dk ⟨by omega, by omega⟩ (cond_dk ⟨by omega, by omega⟩ ⟨isD_l, isD_t, dC l (x i y), isD_dC, hlm, cond_dk ⟨by omega, by omega⟩ (cond_dk ⟨by omega, by omega⟩ ⟨fitP_self rfl, ⟨hl6, fun j hj => ⟨h4 j hj, (h2.1 j hj).2⟩⟩, cond_r (by omega) ⟨y + 1, by show y + 1 <= _; omega, by dsimp only; omega, rfl, ⟨VB.fit_refl _, ⟨rfl, rfl, rfl, fun j hj => ?_⟩, trivial⟩, fun _ _ _ h => h⟩⟩)⟩))
    show lsF (aZ (mostF l) (x i) y) (x i y) l.length j = lsF (aZ (mostF l) (x i) y) (x i y) 6 j
    unfold lsF
    rw [if_pos hj, if_pos (by omega)]
   ·obtain rfl : y = (p.getD i []).length := by omega
    exact ⟨rfl, ⟨_, rfl⟩, rfl⟩
  ·rintro lock tt h K ⟨hf, _, k1⟩
   refine ⟨0, hf, Nat.zero_le _, ?_⟩
   rintro ex vs bs ⟨rfl, ⟨g, rfl⟩, rfl⟩
   exact k1 g
 ·rintro lock tt h K ⟨hf, hc, _⟩
  exact (hh hc).elim
theorem lPF_ok {i k : Nat} : LSound Try.prog true (.block 10 (.loop (loopB 10 (bodyOf Try.prog 9)))) (ntOf Try.prog 9) (lPF l t p wh x i k) := by
 by_cases hh : conP l t p x /\ k < i /\ i < p.length
 ·obtain ⟨hc, hk, hi⟩ := hh
  obtain ⟨ho, hp, _⟩ := id hc
  have hl6 := (okAll_l ho).1.1
  obtain ⟨hP, hY, hlen, hnd⟩ := paths_of hp
  have hil : (p.getD i []).length = yP p := hlen i hi
  have hkl : (p.getD k []).length = yP p := hlen k (by omega)
  have hY4 : yP p <= 4 := hY.2
  have hag := (conP_ok hc).2 k i (by rw [all_bit, decide_eq_true (by omega)]) (by rw [all_bit, decide_eq_true hi])
  rw [Nat.sub_self] at hag
  refine loop_row hmix (noL_good inR_tab) (un := 10) (ds := dsPF) (ns := [0]) (nx := 2) (fun y : Nat => VPF l t p wh x i k y) (fun _ => [.cells (tsL t) 25]) (fun y => y <= yP p /\ ∀ y', y' < y -> ndP p k y' = ndP p i y') (fun y => yP p - y) (fun _ ex vs bs => ex = .exit 10 /\ bs = [.cells (tsL t) 25] /\ ∃ y : Nat, vs = VPF l t p wh x i k y) noL_ok ?_ ?_
  ·rintro y ⟨h0, h1⟩
   refine cast (ppf_ev l t p wh x i k y _).symm ?_
   rw [show (i : Int).toNat = i by omega, show (k : Int).toNat = k by omega, show (y : Int).toNat = y by omega]
   refine cond_d (fun hy => ?_) (fun hy => ⟨rfl, rfl, y, rfl⟩)
   refine cond_dk ⟨by omega, by omega⟩ (cond_dk ⟨by omega, by omega⟩ (cond_dk ⟨by omega, by omega⟩ (cond_d (fun he => ?_) (fun _ => ⟨rfl, rfl, y, rfl⟩))))
   have hall : ∀ y', y' <= y -> ndP p k y' = ndP p i y' := fun y' h => by
    rcases Nat.lt_or_ge y' y with h2 | h2
    ·exact h1 y' h2
    ·obtain rfl : y' = y := by omega
     exact he
   have hx := hag y (Nat.zero_le _) (by omega) (fun y' _ h => hall y' h)
   exact cond_dk ⟨by omega, by omega⟩ (cond_dk ⟨by omega, by omega⟩ (cond_dk ⟨by omega, by omega⟩ (cond_dk ⟨by omega, by omega⟩ ⟨l.length, x i y, by rw [hx]; exact isD_d1, isD_d1, by omega, cond_r (by omega) ⟨y + 1, ⟨by omega, fun y' h => hall y' (by omega)⟩, by dsimp only; omega, rfl, fitBs_refl _, fun _ _ _ h => h⟩⟩)))
  ·rintro lock tt h K ⟨hf, _, k1⟩
   refine ⟨0, hf, ⟨Nat.zero_le _, fun y' h => by omega⟩, ?_⟩
   rintro ex vs bs ⟨rfl, rfl, y, rfl⟩
   exact k1 y
 ·rintro lock tt h K ⟨hf, hc, _⟩
  exact (hh hc).elim
theorem lPE_ok {i : Nat} : LSound Try.prog true (.block 8 (.loop (loopB 8 (bodyOf Try.prog 9)))) (ntOf Try.prog 9) (lPE l t p wh x i) := by
 by_cases hh : conP l t p x /\ i < p.length
 ·obtain ⟨hc, hi⟩ := hh
  have hP := (paths_of hc.2.1).1
  refine loop_rowD hmix good0 (un := 10) (ds := dsPE) (ns := [0]) (nx := 2) (lsp := fun k : Nat => tabB [(10, lPF l t p wh x i k)]) (fun k : Nat => VPE l t p wh x i k) (fun _ => [.cells (tsL t) 25]) (fun k => k <= i) (fun k => i - k) (fun _ ex vs bs => ex = .exit 8 /\ bs = [.cells (tsL t) 25] /\ vs = VPE l t p wh x i i) (fun _ _ => lsp_all (fun q hq => by
   simp only [List.mem_singleton] at hq
   subst hq
   exact ⟨_, by kernel_rfl, lPF_ok⟩)) ?_ ?_
  ·rintro k h0
   refine cast (ppe_ev l t p wh x i k _).symm ?_
   refine cond_d (fun hk => ⟨fitP_self rfl, ⟨hc, by omega, hi⟩, fun y => cond_r (by omega) ⟨k + 1, by show k + 1 <= i; omega, by dsimp only; omega, rfl, fitBs_refl _, fun _ _ _ h => h⟩⟩) (fun hk => ?_)
   obtain rfl : k = i := by omega
   exact ⟨rfl, rfl, rfl⟩
  ·rintro lock tt h K ⟨hf, _, k1⟩
   refine ⟨0, hf, Nat.zero_le _, ?_⟩
   rintro ex vs bs ⟨rfl, rfl, rfl⟩
   exact k1
 ·rintro lock tt h K ⟨hf, hc, _⟩
  exact (hh hc).elim
end
theorem roomP8 : ∀ n : Nat, n < 7 -> roomB n 8 = true := by decide
theorem roomP24 : ∀ n : Nat, n < 7 -> roomB n 24 = true := by decide
theorem roomP56 : ∀ n : Nat, n < 7 -> roomB (0 + n) 56 = true := by decide
theorem isD_rchP {l : List Stk} {h : VH} {k n d : Nat} {e : Nat -> List VV} (hk : k < l.length) (hm : h.at n = .vec (0 + l.length) (atG k (catG 0 e (stG l)) (setL (catG 0 e (stG l) k) 0 [I (min 6 ((l.getD k k0).casks + 1))])) 5 32) : isD h (d + 1) (.sl n (0 + l.length)) (stD (rchL l k)) :=
 ⟨by rw [rchL_len]; omega, by decide, _, _, hm, fun j _ => rch_el hk j⟩
theorem isD_p {h : VH} {k : Nat} {p : List (List Int)} : isD h (k + 1) (.tl p.length 1 (pthG p)) (pthD p) := ⟨rfl, rfl, fun _ _ => rfl⟩
theorem isD_less {h : VH} {m d : Nat} {p : List (List Int)} {r : Int} {e : Nat -> List VV} (hr : 0 <= r /\ r < p.length) (hm : h.at m = .vec (0 + (r - 0).toNat + ((p.length : Int) - (r + 1)).toNat) (catG (0 + (r - 0).toNat) (catG 0 e (fun j => pthG p (Int.toNat 0 + j))) (fun j => pthG p ((r + 1).toNat + j))) 1 23) : isD h (d + 1) (.sl m (0 + (r - 0).toNat + ((p.length : Int) - (r + 1)).toNat)) (pthD (lessP p r.toNat)) := by
 refine ⟨by rw [lessP_len (by omega)]; omega, by decide, _, _, hm, fun j hj => ?_⟩
 have e1 : ∀ {n : Nat} {f g : Nat -> List VV}, catG n f g j = if j < n then f j else g (j - n) := fun {n f g} => by
  unfold catG
  cases hb : Nat.blt j n with
  | true => rw [if_pos (by simpa [Nat.blt_eq] using hb)]; rfl
  | false => rw [if_neg (fun h => by rw [<- Nat.blt_eq] at h; rw [hb] at h; cases h)]; rfl
 rw [e1]
 unfold pthG
 rw [lessP_get]
 by_cases h : j < r.toNat
 ·rw [if_pos (by omega), if_pos h, e1, if_neg (by omega)]
  have : Int.toNat 0 + (j - 0) = j := by show 0 + (j - 0) = j; omega
  rw [this]
 ·rw [if_neg (by omega), if_neg h]
  have : (r + 1).toNat + (j - (0 + (r - 0).toNat)) = j + 1 := by omega
  rw [this]
section
variable {l : List Stk} {t : Tst} {p : List (List Int)} {wh : Int} {x : Rsl}
theorem lPA_ok : LSound Try.prog true (.block 0 (.loop (loopB 0 (bodyOf Try.prog 9)))) (ntOf Try.prog 9) (lPA l t p wh x) := by
 by_cases hc : conP l t p x
 ·obtain ⟨ho, hp, _⟩ := id hc
  obtain ⟨hl, _⟩ := okAll_l ho
  have hl6 := hl.1
  obtain ⟨hP, hY, hlen, hnd⟩ := paths_of hp
  have hrm : roomB ((l.length : Int)).toNat 8 = true := by rw [show ((l.length : Int)).toNat = l.length by omega]; exact roomP8 _ (by omega)
  refine loop_rowD hmix good0 (un := 10) (ds := dsPA) (ns := [0]) (nx := 1) (lsp := fun i : Nat => tabB [(2, lPB l t p wh x i), (4, lPC l t p wh x i), (8, lPE l t p wh x i)]) (fun i : Nat => VPA l t p wh x i) (fun _ => [.cells (tsL t) 25]) (fun i => i <= p.length) (fun i => p.length - i) (fun _ ex vs bs => ex = .exit 0 /\ bs = [.cells (tsL t) 25] /\ vs = VPA l t p wh x p.length) (fun _ _ => lsp_all (fun q hq => by
   simp only [List.mem_cons, List.not_mem_nil, or_false] at hq
   rcases hq with rfl | rfl | rfl
   ·exact ⟨_, by kernel_rfl, lPB_ok⟩
   ·exact ⟨_, by kernel_rfl, lPC_ok⟩
   ·exact ⟨_, by kernel_rfl, lPE_ok⟩)) ?_ ?_
  ·rintro i h0
   refine cast (ppa_ev l t p wh x i _).symm ?_
   refine cond_d (fun hi => ?_) (fun hi => ?_)
   ·have hi' : i < p.length := by omega
    have hil : (p.getD i []).length = yP p := hlen i hi'
    exact cond_dk ⟨by omega, by omega⟩ (cond_dk ⟨by omega, rfl⟩ (cond_k hrm ⟨⟨⟨rfl, rfl, VB.fit_refl _, ⟨rfl, by omega, rfl, fun _ _ => rfl⟩, trivial⟩, rfl, rfl, rfl, rfl, rfl, rfl, rfl, rfl, rfl, rfl, rfl, rfl, rfl, rfl, rfl, rfl, rfl, trivial⟩, hl, cond_dk ⟨by omega, by omega⟩ (cond_nd (fun h => (h (by rw [hil])).elim) (fun _ => ⟨fitP_self rfl, ⟨hc, hi'⟩, fun _ => ⟨fitP_self rfl, ⟨hc, hi'⟩, cond_r (by omega) ⟨i + 1, by show i + 1 <= _; omega, by dsimp only; omega, rfl, fitBs_refl _, fun _ _ _ h => h⟩⟩⟩))⟩))
   ·obtain rfl : i = p.length := by omega
    exact ⟨rfl, rfl, rfl⟩
  ·rintro lock tt h K ⟨hf, _, k1⟩
   refine ⟨0, hf, Nat.zero_le _, ?_⟩
   rintro ex vs bs ⟨rfl, rfl, rfl⟩
   exact k1
 ·rintro lock tt h K ⟨hf, h2, _⟩
  exact (hc h2).elim
theorem pln_c (hc : pthC p) : PlnOut l t p := by
 by_cases h0 : p.length = 0
 ·obtain rfl : p = [] := List.length_eq_zero_iff.1 h0
  cases ho : okAll l t with
  | false => exact plnE_v (.inl ho)
  | true =>
   obtain ⟨r, h', rfl, hv⟩ := of_callN (noL_good (tab1 (asK_ok l t true))) (f := 17) (args := [stD l, .agg (tsL t), pthD noP]) (h := ⟨0, []⟩) (K := fun r _ => r = .ret (.tup [.nils, I 2])) (cast (ple0_ev l t _).symm ⟨isD_l, isD_t, ho, rfl⟩)
   have hp : okPaths [] = false := by decide
   exact ⟨_, _, hv, .inl ⟨by rw [plE_2 ho hp]; decide, by rw [plE_2 ho hp]⟩⟩
 ·exact pln_v ⟨⟨by omega, hc.1⟩, hc.2⟩
theorem pln_anyC (hc : pthC p) : ∃ h', CallsV Try.prog 17 [stD l, .agg (tsL t), pthD p] ⟨0, []⟩ (.ret (.tup [.any, I (plE l t p)])) h' := by
 obtain ⟨r, h', hv, ⟨_, rfl⟩ | ⟨he, x, _, rfl⟩⟩ := pln_c (l := l) (t := t) hc
 ·refine ⟨h', calls_res hv (fun R x hx => ?_)⟩
  obtain ⟨xs, ⟨y, ys, _, h2, rfl⟩, rfl⟩ := hx
  exact ⟨_, ⟨y, ys, trivial, h2, rfl⟩, rfl⟩
 ·refine ⟨h', calls_res hv (fun R x hx => ?_)⟩
  obtain ⟨xs, ⟨y, ys, _, h2, rfl⟩, rfl⟩ := hx
  rw [he]
  exact ⟨_, ⟨y, ys, trivial, h2, rfl⟩, rfl⟩
theorem plQ_ok {E : Int} {P : Prop} {R : VV} (hR : ∀ r h', CallsV Try.prog 17 [stD l, .agg (tsL t), pthD p] ⟨0, []⟩ r h' -> plE l t p = E -> P -> ((plE l t p ≠ 0 /\ r = .ret (.tup [.nils, I (plE l t p)])) ∨ (plE l t p = 0 /\ ∃ x, planF l t p (p.getD 0 []).length (p.getD 0 []).length (2 ^ p.length - 1) (mostF l) = some x /\ r = .ret (.tup [plnD l.length p.length (p.getD 0 []).length x, I 0]))) -> r = .ret R) (hb : R.bel 0 = true) : SpOk Try.prog (plQ l t p E P (.ret R)).1 (plQ l t p E P (.ret R)).2 := by
 intro lock args h K hK
 simp only [plQ] at hK
 split at hK
 ·obtain ⟨h1, rfl, h2, ⟨hc, he, hP⟩, hK⟩ := hK
  obtain ⟨r, h', hv, ho⟩ := pln_c (l := l) (t := t) hc
  obtain rfl := hR r h' hv he hP ho
  rw [h1, h2]
  exact ⟨_, h, hK, lockP_refl _ _, calls_lift0 hv rfl hb⟩
 ·obtain ⟨l', p', h1, h2, h3, hc, hK⟩ := hK
  obtain ⟨h', hv⟩ := pln_anyC (l := l') (t := t) hc
  exact ⟨_, h, hK _ rfl, lockP_refl _ _, calls_lendDP 4 hv rfl ⟨h1, h2, h3, trivial⟩⟩
 ·exact hK.elim
theorem plE_valsP : plE l t p = 1 ∨ plE l t p = 2 ∨ (okAll l t = true /\ okPaths p = true /\ (plE l t p = 4 ∨ (plE l t p = 0 /\ ∃ x, planF l t p (yP p) (yP p) (2 ^ p.length - 1) (mostF l) = some x))) := by
 cases ho : okAll l t with
 | false => exact .inl (plE_1 ho)
 | true =>
  cases hp : okPaths p with
  | false => exact .inr (.inl (plE_2 ho hp))
  | true =>
   refine .inr (.inr ⟨rfl, rfl, ?_⟩)
   cases hx : planF l t p (yP p) (yP p) (2 ^ p.length - 1) (mostF l) with
   | none => exact .inl (plE_n ho hp hx)
   | some x => exact .inr ⟨plE_s ho hp hx, x, rfl⟩
theorem pt_g (hg : greatF l t 64 = true) : ∃ h', CallsV Try.prog 9 [stD l, .agg (tsL t), pthD p, .int .u8 wh] ⟨0, []⟩ (.ret (.bool true)) h' := by
 have htab : ∀ f T, tabS [grY l t true, alT] f = some T -> SpOk Try.prog f T := tab_ok _ (fun x hx => by
  simp only [List.mem_cons, List.not_mem_nil, or_false] at hx
  rcases hx with rfl | rfl
  ·exact grY_ok l t true
  ·exact alT_ok)
 obtain ⟨r, h', rfl, hc⟩ := of_callN (noL_good htab) (f := 9) (args := [stD l, .agg (tsL t), pthD p, .int .u8 wh]) (h := ⟨0, []⟩) (K := fun r _ => r = .ret (.bool true)) (cast (ptg_ev l t p wh _).symm ⟨isD_l, isD_t, hg, rfl⟩)
 exact ⟨h', hc⟩
theorem pt_1 (hg : greatF l t 64 = false) (he : plE l t p = 1) : ∃ h', CallsV Try.prog 9 [stD l, .agg (tsL t), pthD p, .int .u8 wh] ⟨0, []⟩ (.ret (.bool true)) h' := by
 have htab : ∀ f T, tabS [grY l t false, wiR p, plQ l t p 1 True (.ret (.tup [.nils, I 1])), alT] f = some T -> SpOk Try.prog f T := tab_ok _ (fun x hx => by
  simp only [List.mem_cons, List.not_mem_nil, or_false] at hx
  rcases hx with rfl | rfl | rfl | rfl
  ·exact grY_ok l t false
  ·exact wiR_ok p
  ·exact plQ_ok (fun r h' _ he _ ho => ho.elim (fun ⟨_, hr⟩ => by rw [hr, he]) (fun ⟨h0, _⟩ => absurd (he.symm.trans h0) (by decide))) rfl
  ·exact alT_ok)
 obtain ⟨r, h', rfl, hc⟩ := of_callN (noL_good htab) (f := 9) (args := [stD l, .agg (tsL t), pthD p, .int .u8 wh]) (h := ⟨0, []⟩) (K := fun r _ => r = .ret (.bool true)) (cast (pt1_ev l t p wh _).symm ⟨isD_l, isD_t, hg, isD_p, fun b hb => cond_i (fun _ => rfl) (fun hf => ⟨rfl, rfl, rfl, ⟨⟨by have := (hb hf).1; omega, fun i => by have := (hb hf).2 i; omega⟩, he, trivial⟩, rfl⟩)⟩)
 exact ⟨h', hc⟩
theorem pt_2 (hg : greatF l t 64 = false) (he : plE l t p = 2) : ∃ h', CallsV Try.prog 9 [stD l, .agg (tsL t), pthD p, .int .u8 wh] ⟨0, []⟩ (.ret (.bool true)) h' := by
 have htab : ∀ f T, tabS [grY l t false, wiR p, plQ l t p 2 True (.ret (.tup [.nils, I 2])), alT] f = some T -> SpOk Try.prog f T := tab_ok _ (fun x hx => by
  simp only [List.mem_cons, List.not_mem_nil, or_false] at hx
  rcases hx with rfl | rfl | rfl | rfl
  ·exact grY_ok l t false
  ·exact wiR_ok p
  ·exact plQ_ok (fun r h' _ he _ ho => ho.elim (fun ⟨_, hr⟩ => by rw [hr, he]) (fun ⟨h0, _⟩ => absurd (he.symm.trans h0) (by decide))) rfl
  ·exact alT_ok)
 obtain ⟨r, h', rfl, hc⟩ := of_callN (noL_good htab) (f := 9) (args := [stD l, .agg (tsL t), pthD p, .int .u8 wh]) (h := ⟨0, []⟩) (K := fun r _ => r = .ret (.bool true)) (cast (pt2_ev l t p wh _).symm ⟨isD_l, isD_t, hg, isD_p, fun b hb => cond_i (fun _ => rfl) (fun hf => ⟨rfl, rfl, rfl, ⟨⟨by have := (hb hf).1; omega, fun i => by have := (hb hf).2 i; omega⟩, he, trivial⟩, rfl⟩)⟩)
 exact ⟨h', hc⟩
theorem pt_4 (hg : greatF l t 64 = false) (he : plE l t p = 4) : ∃ h', CallsV Try.prog 9 [stD l, .agg (tsL t), pthD p, .int .u8 wh] ⟨0, []⟩ (.ret (.bool true)) h' := by
 have htab : ∀ f T, tabS [grY l t false, wiR p, plQ l t p 4 True (.ret (.tup [.nils, I 4])), alT] f = some T -> SpOk Try.prog f T := tab_ok _ (fun x hx => by
  simp only [List.mem_cons, List.not_mem_nil, or_false] at hx
  rcases hx with rfl | rfl | rfl | rfl
  ·exact grY_ok l t false
  ·exact wiR_ok p
  ·exact plQ_ok (fun r h' _ he _ ho => ho.elim (fun ⟨_, hr⟩ => by rw [hr, he]) (fun ⟨h0, _⟩ => absurd (he.symm.trans h0) (by decide))) rfl
  ·exact alT_ok)
 obtain ⟨r, h', rfl, hc⟩ := of_callN (noL_good htab) (f := 9) (args := [stD l, .agg (tsL t), pthD p, .int .u8 wh]) (h := ⟨0, []⟩) (K := fun r _ => r = .ret (.bool true)) (cast (pt4_ev l t p wh _).symm ⟨isD_l, isD_t, hg, isD_p, fun b hb => cond_i (fun _ => rfl) (fun hf => ⟨rfl, rfl, rfl, ⟨⟨by have := (hb hf).1; omega, fun i => by have := (hb hf).2 i; omega⟩, he, trivial⟩, rfl⟩)⟩)
 exact ⟨h', hc⟩
theorem pt_0 (hw : 0 <= wh /\ wh <= 255) (hg : greatF l t 64 = false) (ho : okAll l t = true) (hp : okPaths p = true) (he : plE l t p = 0) (hx : planF l t p (yP p) (yP p) (2 ^ p.length - 1) (mostF l) = some x) : ∃ h', CallsV Try.prog 9 [stD l, .agg (tsL t), pthD p, .int .u8 wh] ⟨0, []⟩ (.ret (.bool true)) h' := by
 have htab : ∀ f T, tabS [grY l t false, wiR p, plQ l t p 0 (planF l t p (yP p) (yP p) (2 ^ p.length - 1) (mostF l) = some x) (.ret (.tup [plnD l.length p.length (yP p) x, I 0])), rpY p, alT] f = some T -> SpOk Try.prog f T := tab_ok _ (fun q hq => by
  simp only [List.mem_cons, List.not_mem_nil, or_false] at hq
  rcases hq with rfl | rfl | rfl | rfl | rfl
  ·exact grY_ok l t false
  ·exact wiR_ok p
  ·exact plQ_ok (fun r h' _ he hP ho => ho.elim (fun ⟨h0, _⟩ => (h0 he).elim) (fun ⟨_, z, hz, hr⟩ => by rw [hP] at hz; cases hz; exact hr)) rfl
  ·exact rpY_ok p
  ·exact alT_ok)
 have hall : LoopsOk Try.prog 9 [(0, lPA l t p wh x)] := fun q hq => by
  simp only [List.mem_singleton] at hq
  subst hq
  exact ⟨by kernel_rfl, lPA_ok⟩
 obtain ⟨hl, _⟩ := okAll_l ho
 have hl6 := hl.1
 obtain ⟨hP, hY, _⟩ := paths_of hp
 have hwi : -9223372036854775808 <= wh /\ wh <= 9223372036854775807 := by omega
 have hroom : roomB (0 + l.length) 56 = true := roomP56 _ (by omega)
 have hrem : (l.length : Int) ≠ 0 -> 0 <= remZ wh (l.length : Int) /\ remZ wh (l.length : Int) < (l.length : Int) := fun h => by
  rw [remZ_nn hw.1]
  exact ⟨Int.emod_nonneg _ h, Int.emod_lt_of_pos _ (by omega)⟩
 have hk3 : (l.length : Int) ≠ 0 -> (remZ wh (l.length : Int)).toNat < l.length := fun h => by have := hrem h; omega
 have hk1 := hrem
 have hk2 : (l.length : Int) ≠ 0 -> 0 <= remZ wh (l.length : Int) /\ remZ wh (l.length : Int) < ((0 + l.length : Nat) : Int) := fun h => by have := hrem h; omega
 have hck : (l.length : Int) ≠ 0 -> -9223372036854775808 <= (l.getD (remZ wh (l.length : Int)).toNat k0).casks + 1 /\ (l.getD (remZ wh (l.length : Int)).toNat k0).casks + 1 <= 9223372036854775807 := fun h => by have := (hl.2 _ (hk3 h)).1; omega
 have b1 : ((0 + l.length).beq (0 + l.length) && Nat.ble 1 Try.prog.types[32].size) = true := Bool.and_eq_true_iff.2 ⟨Nat.beq_refl _, by kernel_rfl⟩
 have b2 : ∀ z : Int, ((0 + l.length).beq (0 + l.length) && [I z].all VV.one && belL 0 [I z]) = true := fun z => by rw [show (0 + l.length).beq (0 + l.length) = true from Nat.beq_refl _]; rfl
 have hr : 0 <= remZ wh (p.length : Int) /\ remZ wh (p.length : Int) < (p.length : Int) := by
  rw [remZ_nn hw.1]
  exact ⟨Int.emod_nonneg _ (by omega), Int.emod_lt_of_pos _ (by omega)⟩
 obtain ⟨r, h', rfl, hc⟩ := of_callN (callL_good hmix htab hall (un := 10) 20) (f := 9) (args := [stD l, .agg (tsL t), pthD p, .int .u8 wh]) (h := ⟨0, []⟩) (K := fun r _ => r = .ret (.bool true)) (by
  refine cast (pt0_ev l t p wh x _).symm ⟨isD_l, isD_t, hg, isD_p, fun b hb => cond_i (fun _ => rfl) (fun hf => ?_)⟩
  have hpc : pthC p := ⟨by have := (hb hf).1; omega, fun i => by have := (hb hf).2 i; omega⟩
  refine ⟨rfl, rfl, rfl, ⟨hpc, he, hx⟩, isD_p, hp, cond_nd (fun h => (h rfl).elim) (fun _ => ⟨fitP_self rfl, ⟨ho, hp, hx⟩, cond_r hwi (cond_d (fun h => by omega) (fun _ => cond_d (fun h1 => ?_) (fun _ => cond_d (fun _ => rfl) (fun h0 => cond_r hwi (cond_d (fun h => (h0 h).elim) (fun _ => cond_k hroom (cond_dk (hk1 h0) (cond_r (hck h0) (cond_dk (hk2 h0) (cond_k b1 (cond_k (b2 _) ⟨rchL l (remZ wh (l.length : Int)).toNat, p, isD_rchP (hk3 h0) rfl, isD_t, isD_p, hpc, fun e he => cond_dk (he.trans (rich_plan (hk3 h0) ho hp hx)) rfl⟩)))))))))))⟩)⟩
  have hlc : pthC (lessP p (remZ wh (p.length : Int)).toNat) := ⟨by rw [lessP_len (by omega)]; omega, fun i => by rw [lessP_get]; exact hpc.2 _⟩
  exact cond_dk ⟨by omega, by omega, by omega⟩ (cond_k (roomP24 _ (by omega)) (cond_r (by omega) (cond_dk ⟨by omega, by omega, by omega⟩ (cond_k (Nat.beq_refl _) (cond_k (roomP24 _ (by omega)) ⟨l, lessP p (remZ wh (p.length : Int)).toNat, isD_l, isD_t, isD_less hr rfl, hlc, fun e he => cond_nd (fun h => (h (he.trans (less_plan (by omega) (by omega) ho hp hx))).elim) (fun _ => cond_d (fun _ => rfl) (fun h0 => cond_r hwi (cond_d (fun h => (h0 h).elim) (fun _ => cond_k hroom (cond_dk (hk1 h0) (cond_r (hck h0) (cond_dk (hk2 h0) (cond_k b1 (cond_k (b2 _) ⟨rchL l (remZ wh (l.length : Int)).toNat, p, isD_rchP (hk3 h0) rfl, isD_t, isD_p, hpc, fun e he => cond_dk (he.trans (rich_plan (hk3 h0) ho hp hx)) rfl⟩)))))))))⟩))))))
 exact ⟨h', hc⟩
theorem paths_law (hw : 0 <= wh /\ wh <= 255) : ∃ h', CallsV Try.prog 9 [stD l, .agg (tsL t), pthD p, .int .u8 wh] ⟨0, []⟩ (.ret (.bool true)) h' := by
 cases hg : greatF l t 64 with
 | true => exact pt_g hg
 | false =>
  rcases plE_valsP (l := l) (t := t) (p := p) with h | h | ⟨ho, hp, h | ⟨h, x, hx⟩⟩
  ·exact pt_1 hg h
  ·exact pt_2 hg h
  ·exact pt_4 hg h
  ·exact pt_0 hw hg ho hp h hx
end
end Go.Sx.Bln
