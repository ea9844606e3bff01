/- stream: Fa1 Fd1 Fd2 Fd3, in one text. -/
import Derived.Test.YtlboglkgbhjpeaaWW4
/- blend: the law BlendLeast, evaluated case by case. -/

namespace Go.Sx.Bln
open Go Go.Sx Go.Proofs
set_option maxRecDepth 1000000

/-- great, taste, stocks: the answers in the case. -/
def grK (l : List Stk) (t : Tst) (b : Bool) : FuncId × Spec1 := (14, fun _ args h K => match args with
  | [x, z, .int .i64 m] => isD h 4 x (stD l) ∧ isD h 4 z (.agg (tsL t)) ∧ greatF l t m = b ∧ K (.ret (.bool b)) h
  | _ => False)
def rtY (t : Tst) : FuncId × Spec1 := (27, fun _ args h K => match args with
  | [x] => isD h 3 x (.agg (tsL t)) ∧ (t.T.length ≤ 100000 ∧ okT t = true) ∧ K (.ret (.bool true)) h
  | _ => False)
def rsY (l : List Stk) (t : Tst) : FuncId × Spec1 := (28, fun _ args h K => match args with
  | [x, y] => isD h 3 x (stD l) ∧ isD h 3 y (.agg (tsL t)) ∧ (l.length ≤ 100000 ∧ t.T.length ≤ 100000 ∧ (decide (l.length ≤ 6) && !anyS l t) = true) ∧ K (.ret (.bool true)) h
  | _ => False)
/-- Cheapest: the first call's answer is told; the later ones' are not. -/
noncomputable def chK (l : List Stk) (t : Tst) (E : Int) (P : Int → Int → Prop) (R : VRes) : FuncId × Spec1 := (18, fun _ args h K => match h.nx, args with
  | 1, [x, z, .int .i64 y, .int .i64 m] => x = stD l ∧ z = .agg (tsL t) ∧ (chpE l t y m = E ∧ P y m) ∧ K R h
  | _, [.tl L s g, .agg [T, .int .i64 f, M], .int .i64 y, .int .i64 m] => isD h 4 (.tl L s g) (stD l) ∧ isD h 4 (.agg [T, .int .i64 f, M]) (.agg (tsL (farT t f))) ∧ ∀ n e : Int, n = chpC l (farT t f) y m ∧ e = chpE l (farT t f) y m → K (.ret (.tup [.any, I n, I e])) h
  | _, [.sl p L, z, .int .i64 y, .int .i64 m] => ∃ l' : List Stk, isD h 4 (.sl p L) (stD l') ∧ isD h 4 z (.agg (tsL t)) ∧ ∀ n e : Int, n = chpC l' t y m ∧ e = chpE l' t y m → K (.ret (.tup [.any, I n, I e])) h
  | _, _ => False)
/-- Blend: it is one. -/
def blY (l : List Stk) (t : Tst) : FuncId × Spec1 := (24, fun _ args h K => match args with
  | [x, z, .int .i64 y, w] => isD h 4 x (stD l) ∧ isD h 4 z (.agg (tsL t)) ∧ ∃ D, isD h 4 w (inD D) ∧ bldE l t y D = 0 ∧ ∀ V, V = vtF l t (chD D) y → K (.ret (.tup [vtV V h.nx, I 0])) (h.new (vtB V))
  | _ => False)
/-- The law's meets: Cheapest's choice does; the other's answer is told. -/
noncomputable def lmK (l : List Stk) (t : Tst) (b : Bool) : FuncId × Spec1 := (31, fun _ args h K => match args with
  | [x, z, .int .i64 y, .int .i64 m, .tl L s g] => isD h 4 x (stD l) ∧ isD h 4 z (.agg (tsL t)) ∧ ∃ (D : List Int), isD h 4 (.tl L s g) (inD D) ∧ lmF l t y m D = true ∧ K (.ret (.bool true)) h
  | [x, z, .int .i64 y, .int .i64 m, .sl n L] => isD h 4 x (stD l) ∧ isD h 4 z (.agg (tsL t)) ∧ ∃ (D : List Int), isD h 4 (.sl n L) (inD D) ∧ lmF l t y m D = b ∧ K (.ret (.bool b)) h
  | _ => False)
theorem lgr_ev (l : List Stk) (t : Tst) (y m more : Int) (wh : Int) (B : List Int) (Q : VRes → Prop) : callN Try.prog (tabS [grK l t true, alT]) noL 10 20 0 (.fn 8) [stD l, .agg (tsL t), I y, I m, I more, .int .u8 wh, byD B] ⟨0, []⟩ (fun r _ => Q r) =
  (isD (VH.mk (0 + 1) [(0, VB.cells (tsL t) 25)]) 4 (stD l) (stD l) ∧ isD (VH.mk (0 + 1) [(0, VB.cells (tsL t) 25)]) 4 (VV.agg (tsL t)) (VV.agg (tsL t)) ∧ greatF l t (1000 : Int) = true ∧ Q (VRes.ret (VV.bool true))) := by kernel_rfl

theorem ler1_ev (l : List Stk) (t : Tst) (y m more : Int) (wh : Int) (B : List Int) (Q : VRes → Prop) : callN Try.prog (tabS [grK l t false, chK l t 1 (fun _ _ => True) (rErr 1), alT]) noL 10 20 0 (.fn 8) [stD l, .agg (tsL t), I y, I m, I more, .int .u8 wh, byD B] ⟨0, []⟩ (fun r _ => Q r) =
  (isD (VH.mk (0 + 1) [(0, VB.cells (tsL t) 25)]) 4 (stD l) (stD l) ∧ isD (VH.mk (0 + 1) [(0, VB.cells (tsL t) 25)]) 4 (VV.agg (tsL t)) (VV.agg (tsL t)) ∧ greatF l t (1000 : Int) = false ∧ bif decide ((↑B.length : Int) = (0 : Int)) then
 Q (VRes.ret (VV.bool true))
 else stD l = stD l ∧ VV.agg (tsL t) = VV.agg (tsL t) ∧ (chpE l t y m = (1 : Int) ∧ True) ∧ Q (VRes.ret (VV.bool true))) := by kernel_rfl

theorem ler2_ev (l : List Stk) (t : Tst) (y m more : Int) (wh : Int) (B : List Int) (Q : VRes → Prop) : callN Try.prog (tabS [grK l t false, chK l t 2 (fun _ _ => True) (rErr 2), alT]) noL 10 20 0 (.fn 8) [stD l, .agg (tsL t), I y, I m, I more, .int .u8 wh, byD B] ⟨0, []⟩ (fun r _ => Q r) =
  (isD (VH.mk (0 + 1) [(0, VB.cells (tsL t) 25)]) 4 (stD l) (stD l) ∧ isD (VH.mk (0 + 1) [(0, VB.cells (tsL t) 25)]) 4 (VV.agg (tsL t)) (VV.agg (tsL t)) ∧ greatF l t (1000 : Int) = false ∧ bif decide ((↑B.length : Int) = (0 : Int)) then
 Q (VRes.ret (VV.bool true))
 else stD l = stD l ∧ VV.agg (tsL t) = VV.agg (tsL t) ∧ (chpE l t y m = (2 : Int) ∧ True) ∧ Q (VRes.ret (VV.bool true))) := by kernel_rfl

theorem lno_ev (l : List Stk) (t : Tst) (y m more : Int) (wh : Int) (B : List Int) (Q : VRes → Prop) : callN Try.prog (tabS [grK l t false, chK l t 4 (fun _ _ => True) (rErr 4), rtY t, rsY l t, smB l B, lmK l t false, alT]) noL 10 20 0 (.fn 8) [stD l, .agg (tsL t), I y, I m, I more, .int .u8 wh, byD B] ⟨0, []⟩ (fun r _ => Q r) =
  (isD (VH.mk (0 + 1) [(0, VB.cells (tsL t) 25)]) 4 (stD l) (stD l) ∧ isD (VH.mk (0 + 1) [(0, VB.cells (tsL t) 25)]) 4 (VV.agg (tsL t)) (VV.agg (tsL t)) ∧ greatF l t (1000 : Int) = false ∧ bif decide ((↑B.length : Int) = (0 : Int)) then
 Q (VRes.ret (VV.bool true))
 else stD l = stD l ∧ VV.agg (tsL t) = VV.agg (tsL t) ∧ (chpE l t y m = (4 : Int) ∧ True) ∧ isD (VH.mk (0 + 1) [(0, VB.cells (tsL t) 25)]) 3 (VV.agg (tsL t)) (VV.agg (tsL t)) ∧ (t.T.length ≤ 100000 ∧ okT t = true) ∧ isD (VH.mk (0 + 1) [(0, VB.cells (tsL t) 25)]) 3 (stD l) (stD l) ∧ isD (VH.mk (0 + 1) [(0, VB.cells (tsL t) 25)]) 3 (VV.agg (tsL t)) (VV.agg (tsL t)) ∧ (l.length ≤ 100000 ∧ t.T.length ≤ 100000 ∧ (decide (l.length ≤ 6) && !anyS l t) = true) ∧ isD (VH.mk (0 + 1) [(0, VB.cells (tsL t) 25)]) 3 (stD l) (stD l) ∧ isD (VH.mk (0 + 1) [(0, VB.cells (tsL t) 25)]) 3 (byD B) (byD B) ∧ (lB l ∧ u8B B) ∧ isD ((VH.mk (0 + 1) [(0, VB.cells (tsL t) 25)]).new (VB.vec l.length (chG (someF l B)) 1 (3 : TypeId))) 4 (stD l) (stD l) ∧ isD ((VH.mk (0 + 1) [(0, VB.cells (tsL t) 25)]).new (VB.vec l.length (chG (someF l B)) 1 (3 : TypeId))) 4 (VV.agg (tsL t)) (VV.agg (tsL t)) ∧ ∃ (D : List Int), isD ((VH.mk (0 + 1) [(0, VB.cells (tsL t) 25)]).new (VB.vec l.length (chG (someF l B)) 1 (3 : TypeId))) 4 (VV.sl (VH.mk (0 + 1) [(0, VB.cells (tsL t) 25)]).nx l.length) (inD D) ∧ lmF l t y m D = false ∧ bif decide (more ≥ m) then
 bif decide (more ≤ (1048576 : Int)) then
 isD ((VH.mk (0 + 1) [(0, VB.cells (tsL t) 25)]).new (VB.vec l.length (chG (someF l B)) 1 (3 : TypeId))) 4 (stD l) (stD l) ∧ isD ((VH.mk (0 + 1) [(0, VB.cells (tsL t) 25)]).new (VB.vec l.length (chG (someF l B)) 1 (3 : TypeId))) 4 (VV.agg (tsL t)) (VV.agg (tsL (farT t t.far))) ∧ ∀ (n e : Int), n = chpC l (farT t t.far) y more ∧ e = chpE l (farT t t.far) y more → bif decide (e = (0 : Int)) then
 bif decide (m > (0 : Int)) then
 Q (VRes.ret (VV.bool false))
 else bif inK IntKind.i64 wh then
 bif inK IntKind.i64 (t.far + wh) then
 isD (VH.mk (3) ((2, VB.cells [VV.tl t.T.length 1 (dG t.T), I (min (1000 : Int) (t.far + wh)), I t.least] 25) :: (2, VB.cells (tsL t) 25) :: (2, VB.cells [VV.nils, I 0, I 0] 25) :: ((VH.mk (0 + 1) [(0, VB.cells (tsL t) 25)]).nx, VB.vec l.length (chG (someF l B)) 1 (3 : TypeId)) :: (VH.mk (0 + 1) [(0, VB.cells (tsL t) 25)]).bs)) 4 (stD l) (stD l) ∧ isD (VH.mk (3) ((2, VB.cells [VV.tl t.T.length 1 (dG t.T), I (min (1000 : Int) (t.far + wh)), I t.least] 25) :: (2, VB.cells (tsL t) 25) :: (2, VB.cells [VV.nils, I 0, I 0] 25) :: ((VH.mk (0 + 1) [(0, VB.cells (tsL t) 25)]).nx, VB.vec l.length (chG (someF l B)) 1 (3 : TypeId)) :: (VH.mk (0 + 1) [(0, VB.cells (tsL t) 25)]).bs)) 4 (VV.agg [VV.tl t.T.length 1 (dG t.T), I (min (1000 : Int) (t.far + wh)), I t.least]) (VV.agg (tsL (farT t (min (1000 : Int) (t.far + wh))))) ∧ ∀ (n e : Int), n = chpC l (farT t (min (1000 : Int) (t.far + wh))) y m ∧ e = chpE l (farT t (min (1000 : Int) (t.far + wh))) y m → bif decide ((↑l.length : Int) = (0 : Int)) then
 Q (VRes.ret (VV.bool true))
 else bif inK IntKind.i64 wh then
 bif decide ((↑l.length : Int) = (0 : Int)) then
 False
 else bif roomB (0 + l.length) (56) then
 bif decide ((0 : Int) ≤ remZ wh (↑l.length : Int) ∧ remZ wh (↑l.length : Int) < (↑l.length : Int)) then
 bif inK IntKind.i64 ((l.getD (remZ wh (↑l.length : Int)).toNat k0).casks + (1 : Int)) then
 bif decide ((0 : Int) ≤ remZ wh (↑l.length : Int) ∧ remZ wh (↑l.length : Int) < (↑(0 + l.length) : Int)) then
 bif (0 + l.length).beq (0 + l.length) && Nat.ble 1 Try.prog.types[32].size then
 bif (0 + l.length).beq (0 + l.length) && [I (min (6 : Int) ((l.getD (remZ wh (↑l.length : Int)).toNat k0).casks + (1 : Int)))].all VV.one && belL 0 [I (min (6 : Int) ((l.getD (remZ wh (↑l.length : Int)).toNat k0).casks + (1 : Int)))] then
 ∃ (l' : List Stk), isD (VH.mk (4) ((3, VB.vec (0 + l.length) (atG (remZ wh (↑l.length : Int)).toNat (catG 0 (fun (j : Nat) => List.take (5) (List.drop (j * (5)) [])) (stG l)) (setL (catG 0 (fun (j : Nat) => List.take (5) (List.drop (j * (5)) [])) (stG l) (remZ wh (↑l.length : Int)).toNat) 0 [I (min (6 : Int) ((l.getD (remZ wh (↑l.length : Int)).toNat k0).casks + (1 : Int)))])) (5) 32) :: (3, VB.vec (0 + l.length) (catG 0 (fun (j : Nat) => List.take (5) (List.drop (j * (5)) [])) (stG l)) (5) 32) :: (3, VB.vec 0 (fun (j : Nat) => List.take (5) (List.drop (j * (5)) [])) (5) 32) :: (2, VB.cells [VV.tl t.T.length 1 (dG t.T), I (min (1000 : Int) (t.far + wh)), I t.least] 25) :: (2, VB.cells (tsL t) 25) :: (2, VB.cells [VV.nils, I 0, I 0] 25) :: ((VH.mk (0 + 1) [(0, VB.cells (tsL t) 25)]).nx, VB.vec l.length (chG (someF l B)) 1 (3 : TypeId)) :: (VH.mk (0 + 1) [(0, VB.cells (tsL t) 25)]).bs)) 4 (VV.sl (3) (0 + l.length)) (stD l') ∧ isD (VH.mk (4) ((3, VB.vec (0 + l.length) (atG (remZ wh (↑l.length : Int)).toNat (catG 0 (fun (j : Nat) => List.take (5) (List.drop (j * (5)) [])) (stG l)) (setL (catG 0 (fun (j : Nat) => List.take (5) (List.drop (j * (5)) [])) (stG l) (remZ wh (↑l.length : Int)).toNat) 0 [I (min (6 : Int) ((l.getD (remZ wh (↑l.length : Int)).toNat k0).casks + (1 : Int)))])) (5) 32) :: (3, VB.vec (0 + l.length) (catG 0 (fun (j : Nat) => List.take (5) (List.drop (j * (5)) [])) (stG l)) (5) 32) :: (3, VB.vec 0 (fun (j : Nat) => List.take (5) (List.drop (j * (5)) [])) (5) 32) :: (2, VB.cells [VV.tl t.T.length 1 (dG t.T), I (min (1000 : Int) (t.far + wh)), I t.least] 25) :: (2, VB.cells (tsL t) 25) :: (2, VB.cells [VV.nils, I 0, I 0] 25) :: ((VH.mk (0 + 1) [(0, VB.cells (tsL t) 25)]).nx, VB.vec l.length (chG (someF l B)) 1 (3 : TypeId)) :: (VH.mk (0 + 1) [(0, VB.cells (tsL t) 25)]).bs)) 4 (VV.agg (tsL t)) (VV.agg (tsL t)) ∧ ∀ (n e : Int), n = chpC l' t y m ∧ e = chpE l' t y m → Q (VRes.ret (VV.bool true))
 else False
 else False
 else False
 else False
 else False
 else False
 else False
 else False
 else False
 else bif inK IntKind.i64 wh then
 bif inK IntKind.i64 (t.far + wh) then
 isD (VH.mk (3) ((2, VB.cells [VV.tl t.T.length 1 (dG t.T), I (min (1000 : Int) (t.far + wh)), I t.least] 25) :: (2, VB.cells (tsL t) 25) :: (2, VB.cells [VV.nils, I 0, I 0] 25) :: ((VH.mk (0 + 1) [(0, VB.cells (tsL t) 25)]).nx, VB.vec l.length (chG (someF l B)) 1 (3 : TypeId)) :: (VH.mk (0 + 1) [(0, VB.cells (tsL t) 25)]).bs)) 4 (stD l) (stD l) ∧ isD (VH.mk (3) ((2, VB.cells [VV.tl t.T.length 1 (dG t.T), I (min (1000 : Int) (t.far + wh)), I t.least] 25) :: (2, VB.cells (tsL t) 25) :: (2, VB.cells [VV.nils, I 0, I 0] 25) :: ((VH.mk (0 + 1) [(0, VB.cells (tsL t) 25)]).nx, VB.vec l.length (chG (someF l B)) 1 (3 : TypeId)) :: (VH.mk (0 + 1) [(0, VB.cells (tsL t) 25)]).bs)) 4 (VV.agg [VV.tl t.T.length 1 (dG t.T), I (min (1000 : Int) (t.far + wh)), I t.least]) (VV.agg (tsL (farT t (min (1000 : Int) (t.far + wh))))) ∧ ∀ (n e : Int), n = chpC l (farT t (min (1000 : Int) (t.far + wh))) y m ∧ e = chpE l (farT t (min (1000 : Int) (t.far + wh))) y m → bif decide ((↑l.length : Int) = (0 : Int)) then
 Q (VRes.ret (VV.bool true))
 else bif inK IntKind.i64 wh then
 bif decide ((↑l.length : Int) = (0 : Int)) then
 False
 else bif roomB (0 + l.length) (56) then
 bif decide ((0 : Int) ≤ remZ wh (↑l.length : Int) ∧ remZ wh (↑l.length : Int) < (↑l.length : Int)) then
 bif inK IntKind.i64 ((l.getD (remZ wh (↑l.length : Int)).toNat k0).casks + (1 : Int)) then
 bif decide ((0 : Int) ≤ remZ wh (↑l.length : Int) ∧ remZ wh (↑l.length : Int) < (↑(0 + l.length) : Int)) then
 bif (0 + l.length).beq (0 + l.length) && Nat.ble 1 Try.prog.types[32].size then
 bif (0 + l.length).beq (0 + l.length) && [I (min (6 : Int) ((l.getD (remZ wh (↑l.length : Int)).toNat k0).casks + (1 : Int)))].all VV.one && belL 0 [I (min (6 : Int) ((l.getD (remZ wh (↑l.length : Int)).toNat k0).casks + (1 : Int)))] then
 ∃ (l' : List Stk), isD (VH.mk (4) ((3, VB.vec (0 + l.length) (atG (remZ wh (↑l.length : Int)).toNat (catG 0 (fun (j : Nat) => List.take (5) (List.drop (j * (5)) [])) (stG l)) (setL (catG 0 (fun (j : Nat) => List.take (5) (List.drop (j * (5)) [])) (stG l) (remZ wh (↑l.length : Int)).toNat) 0 [I (min (6 : Int) ((l.getD (remZ wh (↑l.length : Int)).toNat k0).casks + (1 : Int)))])) (5) 32) :: (3, VB.vec (0 + l.length) (catG 0 (fun (j : Nat) => List.take (5) (List.drop (j * (5)) [])) (stG l)) (5) 32) :: (3, VB.vec 0 (fun (j : Nat) => List.take (5) (List.drop (j * (5)) [])) (5) 32) :: (2, VB.cells [VV.tl t.T.length 1 (dG t.T), I (min (1000 : Int) (t.far + wh)), I t.least] 25) :: (2, VB.cells (tsL t) 25) :: (2, VB.cells [VV.nils, I 0, I 0] 25) :: ((VH.mk (0 + 1) [(0, VB.cells (tsL t) 25)]).nx, VB.vec l.length (chG (someF l B)) 1 (3 : TypeId)) :: (VH.mk (0 + 1) [(0, VB.cells (tsL t) 25)]).bs)) 4 (VV.sl (3) (0 + l.length)) (stD l') ∧ isD (VH.mk (4) ((3, VB.vec (0 + l.length) (atG (remZ wh (↑l.length : Int)).toNat (catG 0 (fun (j : Nat) => List.take (5) (List.drop (j * (5)) [])) (stG l)) (setL (catG 0 (fun (j : Nat) => List.take (5) (List.drop (j * (5)) [])) (stG l) (remZ wh (↑l.length : Int)).toNat) 0 [I (min (6 : Int) ((l.getD (remZ wh (↑l.length : Int)).toNat k0).casks + (1 : Int)))])) (5) 32) :: (3, VB.vec (0 + l.length) (catG 0 (fun (j : Nat) => List.take (5) (List.drop (j * (5)) [])) (stG l)) (5) 32) :: (3, VB.vec 0 (fun (j : Nat) => List.take (5) (List.drop (j * (5)) [])) (5) 32) :: (2, VB.cells [VV.tl t.T.length 1 (dG t.T), I (min (1000 : Int) (t.far + wh)), I t.least] 25) :: (2, VB.cells (tsL t) 25) :: (2, VB.cells [VV.nils, I 0, I 0] 25) :: ((VH.mk (0 + 1) [(0, VB.cells (tsL t) 25)]).nx, VB.vec l.length (chG (someF l B)) 1 (3 : TypeId)) :: (VH.mk (0 + 1) [(0, VB.cells (tsL t) 25)]).bs)) 4 (VV.agg (tsL t)) (VV.agg (tsL t)) ∧ ∀ (n e : Int), n = chpC l' t y m ∧ e = chpE l' t y m → Q (VRes.ret (VV.bool true))
 else False
 else False
 else False
 else False
 else False
 else False
 else False
 else False
 else False
 else bif inK IntKind.i64 wh then
 bif inK IntKind.i64 (t.far + wh) then
 isD (VH.mk (3) ((2, VB.cells [VV.tl t.T.length 1 (dG t.T), I (min (1000 : Int) (t.far + wh)), I t.least] 25) :: (2, VB.cells (tsL t) 25) :: (2, VB.cells [VV.nils, I 0, I 0] 25) :: ((VH.mk (0 + 1) [(0, VB.cells (tsL t) 25)]).nx, VB.vec l.length (chG (someF l B)) 1 (3 : TypeId)) :: (VH.mk (0 + 1) [(0, VB.cells (tsL t) 25)]).bs)) 4 (stD l) (stD l) ∧ isD (VH.mk (3) ((2, VB.cells [VV.tl t.T.length 1 (dG t.T), I (min (1000 : Int) (t.far + wh)), I t.least] 25) :: (2, VB.cells (tsL t) 25) :: (2, VB.cells [VV.nils, I 0, I 0] 25) :: ((VH.mk (0 + 1) [(0, VB.cells (tsL t) 25)]).nx, VB.vec l.length (chG (someF l B)) 1 (3 : TypeId)) :: (VH.mk (0 + 1) [(0, VB.cells (tsL t) 25)]).bs)) 4 (VV.agg [VV.tl t.T.length 1 (dG t.T), I (min (1000 : Int) (t.far + wh)), I t.least]) (VV.agg (tsL (farT t (min (1000 : Int) (t.far + wh))))) ∧ ∀ (n e : Int), n = chpC l (farT t (min (1000 : Int) (t.far + wh))) y m ∧ e = chpE l (farT t (min (1000 : Int) (t.far + wh))) y m → bif decide ((↑l.length : Int) = (0 : Int)) then
 Q (VRes.ret (VV.bool true))
 else bif inK IntKind.i64 wh then
 bif decide ((↑l.length : Int) = (0 : Int)) then
 False
 else bif roomB (0 + l.length) (56) then
 bif decide ((0 : Int) ≤ remZ wh (↑l.length : Int) ∧ remZ wh (↑l.length : Int) < (↑l.length : Int)) then
 bif inK IntKind.i64 ((l.getD (remZ wh (↑l.length : Int)).toNat k0).casks + (1 : Int)) then
 bif decide ((0 : Int) ≤ remZ wh (↑l.length : Int) ∧ remZ wh (↑l.length : Int) < (↑(0 + l.length) : Int)) then
 bif (0 + l.length).beq (0 + l.length) && Nat.ble 1 Try.prog.types[32].size then
 bif (0 + l.length).beq (0 + l.length) && [I (min (6 : Int) ((l.getD (remZ wh (↑l.length : Int)).toNat k0).casks + (1 : Int)))].all VV.one && belL 0 [I (min (6 : Int) ((l.getD (remZ wh (↑l.length : Int)).toNat k0).casks + (1 : Int)))] then
 ∃ (l' : List Stk), isD (VH.mk (4) ((3, VB.vec (0 + l.length) (atG (remZ wh (↑l.length : Int)).toNat (catG 0 (fun (j : Nat) => List.take (5) (List.drop (j * (5)) [])) (stG l)) (setL (catG 0 (fun (j : Nat) => List.take (5) (List.drop (j * (5)) [])) (stG l) (remZ wh (↑l.length : Int)).toNat) 0 [I (min (6 : Int) ((l.getD (remZ wh (↑l.length : Int)).toNat k0).casks + (1 : Int)))])) (5) 32) :: (3, VB.vec (0 + l.length) (catG 0 (fun (j : Nat) => List.take (5) (List.drop (j * (5)) [])) (stG l)) (5) 32) :: (3, VB.vec 0 (fun (j : Nat) => List.take (5) (List.drop (j * (5)) [])) (5) 32) :: (2, VB.cells [VV.tl t.T.length 1 (dG t.T), I (min (1000 : Int) (t.far + wh)), I t.least] 25) :: (2, VB.cells (tsL t) 25) :: (2, VB.cells [VV.nils, I 0, I 0] 25) :: ((VH.mk (0 + 1) [(0, VB.cells (tsL t) 25)]).nx, VB.vec l.length (chG (someF l B)) 1 (3 : TypeId)) :: (VH.mk (0 + 1) [(0, VB.cells (tsL t) 25)]).bs)) 4 (VV.sl (3) (0 + l.length)) (stD l') ∧ isD (VH.mk (4) ((3, VB.vec (0 + l.length) (atG (remZ wh (↑l.length : Int)).toNat (catG 0 (fun (j : Nat) => List.take (5) (List.drop (j * (5)) [])) (stG l)) (setL (catG 0 (fun (j : Nat) => List.take (5) (List.drop (j * (5)) [])) (stG l) (remZ wh (↑l.length : Int)).toNat) 0 [I (min (6 : Int) ((l.getD (remZ wh (↑l.length : Int)).toNat k0).casks + (1 : Int)))])) (5) 32) :: (3, VB.vec (0 + l.length) (catG 0 (fun (j : Nat) => List.take (5) (List.drop (j * (5)) [])) (stG l)) (5) 32) :: (3, VB.vec 0 (fun (j : Nat) => List.take (5) (List.drop (j * (5)) [])) (5) 32) :: (2, VB.cells [VV.tl t.T.length 1 (dG t.T), I (min (1000 : Int) (t.far + wh)), I t.least] 25) :: (2, VB.cells (tsL t) 25) :: (2, VB.cells [VV.nils, I 0, I 0] 25) :: ((VH.mk (0 + 1) [(0, VB.cells (tsL t) 25)]).nx, VB.vec l.length (chG (someF l B)) 1 (3 : TypeId)) :: (VH.mk (0 + 1) [(0, VB.cells (tsL t) 25)]).bs)) 4 (VV.agg (tsL t)) (VV.agg (tsL t)) ∧ ∀ (n e : Int), n = chpC l' t y m ∧ e = chpE l' t y m → Q (VRes.ret (VV.bool true))
 else False
 else False
 else False
 else False
 else False
 else False
 else False
 else False
 else False
 else bif inK IntKind.i64 wh then
 bif inK IntKind.i64 (t.far + wh) then
 isD (VH.mk (3) ((2, VB.cells [VV.tl t.T.length 1 (dG t.T), I (min (1000 : Int) (t.far + wh)), I t.least] 25) :: (2, VB.cells (tsL t) 25) :: (2, VB.cells [VV.nils, I 0, I 0] 25) :: ((VH.mk (0 + 1) [(0, VB.cells (tsL t) 25)]).nx, VB.vec l.length (chG (someF l B)) 1 (3 : TypeId)) :: (VH.mk (0 + 1) [(0, VB.cells (tsL t) 25)]).bs)) 4 (stD l) (stD l) ∧ isD (VH.mk (3) ((2, VB.cells [VV.tl t.T.length 1 (dG t.T), I (min (1000 : Int) (t.far + wh)), I t.least] 25) :: (2, VB.cells (tsL t) 25) :: (2, VB.cells [VV.nils, I 0, I 0] 25) :: ((VH.mk (0 + 1) [(0, VB.cells (tsL t) 25)]).nx, VB.vec l.length (chG (someF l B)) 1 (3 : TypeId)) :: (VH.mk (0 + 1) [(0, VB.cells (tsL t) 25)]).bs)) 4 (VV.agg [VV.tl t.T.length 1 (dG t.T), I (min (1000 : Int) (t.far + wh)), I t.least]) (VV.agg (tsL (farT t (min (1000 : Int) (t.far + wh))))) ∧ ∀ (n e : Int), n = chpC l (farT t (min (1000 : Int) (t.far + wh))) y m ∧ e = chpE l (farT t (min (1000 : Int) (t.far + wh))) y m → bif decide ((↑l.length : Int) = (0 : Int)) then
 Q (VRes.ret (VV.bool true))
 else bif inK IntKind.i64 wh then
 bif decide ((↑l.length : Int) = (0 : Int)) then
 False
 else bif roomB (0 + l.length) (56) then
 bif decide ((0 : Int) ≤ remZ wh (↑l.length : Int) ∧ remZ wh (↑l.length : Int) < (↑l.length : Int)) then
 bif inK IntKind.i64 ((l.getD (remZ wh (↑l.length : Int)).toNat k0).casks + (1 : Int)) then
 bif decide ((0 : Int) ≤ remZ wh (↑l.length : Int) ∧ remZ wh (↑l.length : Int) < (↑(0 + l.length) : Int)) then
 bif (0 + l.length).beq (0 + l.length) && Nat.ble 1 Try.prog.types[32].size then
 bif (0 + l.length).beq (0 + l.length) && [I (min (6 : Int) ((l.getD (remZ wh (↑l.length : Int)).toNat k0).casks + (1 : Int)))].all VV.one && belL 0 [I (min (6 : Int) ((l.getD (remZ wh (↑l.length : Int)).toNat k0).casks + (1 : Int)))] then
 ∃ (l' : List Stk), isD (VH.mk (4) ((3, VB.vec (0 + l.length) (atG (remZ wh (↑l.length : Int)).toNat (catG 0 (fun (j : Nat) => List.take (5) (List.drop (j * (5)) [])) (stG l)) (setL (catG 0 (fun (j : Nat) => List.take (5) (List.drop (j * (5)) [])) (stG l) (remZ wh (↑l.length : Int)).toNat) 0 [I (min (6 : Int) ((l.getD (remZ wh (↑l.length : Int)).toNat k0).casks + (1 : Int)))])) (5) 32) :: (3, VB.vec (0 + l.length) (catG 0 (fun (j : Nat) => List.take (5) (List.drop (j * (5)) [])) (stG l)) (5) 32) :: (3, VB.vec 0 (fun (j : Nat) => List.take (5) (List.drop (j * (5)) [])) (5) 32) :: (2, VB.cells [VV.tl t.T.length 1 (dG t.T), I (min (1000 : Int) (t.far + wh)), I t.least] 25) :: (2, VB.cells (tsL t) 25) :: (2, VB.cells [VV.nils, I 0, I 0] 25) :: ((VH.mk (0 + 1) [(0, VB.cells (tsL t) 25)]).nx, VB.vec l.length (chG (someF l B)) 1 (3 : TypeId)) :: (VH.mk (0 + 1) [(0, VB.cells (tsL t) 25)]).bs)) 4 (VV.sl (3) (0 + l.length)) (stD l') ∧ isD (VH.mk (4) ((3, VB.vec (0 + l.length) (atG (remZ wh (↑l.length : Int)).toNat (catG 0 (fun (j : Nat) => List.take (5) (List.drop (j * (5)) [])) (stG l)) (setL (catG 0 (fun (j : Nat) => List.take (5) (List.drop (j * (5)) [])) (stG l) (remZ wh (↑l.length : Int)).toNat) 0 [I (min (6 : Int) ((l.getD (remZ wh (↑l.length : Int)).toNat k0).casks + (1 : Int)))])) (5) 32) :: (3, VB.vec (0 + l.length) (catG 0 (fun (j : Nat) => List.take (5) (List.drop (j * (5)) [])) (stG l)) (5) 32) :: (3, VB.vec 0 (fun (j : Nat) => List.take (5) (List.drop (j * (5)) [])) (5) 32) :: (2, VB.cells [VV.tl t.T.length 1 (dG t.T), I (min (1000 : Int) (t.far + wh)), I t.least] 25) :: (2, VB.cells (tsL t) 25) :: (2, VB.cells [VV.nils, I 0, I 0] 25) :: ((VH.mk (0 + 1) [(0, VB.cells (tsL t) 25)]).nx, VB.vec l.length (chG (someF l B)) 1 (3 : TypeId)) :: (VH.mk (0 + 1) [(0, VB.cells (tsL t) 25)]).bs)) 4 (VV.agg (tsL t)) (VV.agg (tsL t)) ∧ ∀ (n e : Int), n = chpC l' t y m ∧ e = chpE l' t y m → Q (VRes.ret (VV.bool true))
 else False
 else False
 else False
 else False
 else False
 else False
 else False
 else False
 else False) := by kernel_rfl

def dsLe : List Nat := [137, 136, 135, 21, 20, 17, 16, 15, 14, 8, 0, 1, 2, 3, 4, 5, 6]
def VLe (l : List Stk) (t : Tst) (y m more wh : Int) (B : List Int) (c : Nat → Int) (i : Nat) : List VV := [I i, I l.length, .sl 3 l.length, .ptr (.own 5 0), .sl 3 l.length, I 0, I (costF l c), .tl l.length 1 (chG c), .bool false, .ptr (.own 0 0), stD l, .agg (tsL t), I y, I m, I more, .int .u8 wh, byD B]
def BLe (l : List Stk) (t : Tst) (B : List Int) (V : Vt) : List VB := [.cells (tsL t) 25, .vec l.length (chG (someF l B)) 1 3, .cells [I V.v, I V.c, I V.a, .sl 4 V.P.length, .bool V.k] 49]
theorem lel_ev (l : List Stk) (t : Tst) (y m more wh : Int) (B : List Int) (c : Nat → Int) (V : Vt) (i : Nat) (X : VEx → List VV → List VB → Prop) : codeE Try.prog (callN Try.prog noSpec noL 10 20) (fun _ => none) true 10 (ntOf Try.prog 8) 0 (loopB 0 (bodyOf Try.prog 8)) (dsLe.zip (VLe l t y m more wh B c i)) ⟨6, [0, 3, 5].zip (BLe l t B V)⟩ (obs 6 dsLe [0, 3, 5] X) =
  (bif decide ((↑i : Int) < (↑l.length : Int)) then
 bif decide (V.c = costF l c) then
 bif decide ((0 : Int) ≤ (↑i : Int) ∧ (↑i : Int) < (↑l.length : Int)) then
 bif decide ((0 : Int) ≤ (↑i : Int) ∧ (↑i : Int) < (↑l.length : Int)) then
 bif l.length.beq l.length && Nat.ble 1 Try.prog.types[3].size then
 bif l.length.beq l.length then
 bif !decide (c (↑i : Int).toNat = someF l B (↑i : Int).toNat) then
 bif decide ((0 : Int) ≤ (↑i : Int) ∧ (↑i : Int) < (↑l.length : Int)) then
 bif decide ((0 : Int) ≤ (↑i : Int) ∧ (↑i : Int) < (↑l.length : Int)) then
 bif l.length.beq l.length && Nat.ble 1 Try.prog.types[3].size then
 bif l.length.beq l.length then
 bif decide (c (↑i : Int).toNat > someF l B (↑i : Int).toNat) then
 X VEx.ret [I (↑i : Int), I (↑l.length : Int), VV.sl 3 l.length, VV.ptr (VA.own 5 0), VV.sl 3 l.length, I 0, I (costF l c), VV.tl l.length 1 (chG c), VV.bool false, VV.ptr (VA.own 0 0), stD l, VV.agg (tsL t), I y, I m, I more, VV.int IntKind.u8 wh, byD B] [VB.cells (tsL t) (25 : TypeId), VB.vec l.length (chG (someF l B)) 1 (3 : TypeId), VB.cells [I V.v, I V.c, I V.a, VV.sl 4 V.P.length, VV.bool V.k] (49 : TypeId)]
 else X (VEx.exit 0) [I (↑i : Int), I (↑l.length : Int), VV.sl 3 l.length, VV.ptr (VA.own 5 0), VV.sl 3 l.length, I 0, I (costF l c), VV.tl l.length 1 (chG c), VV.bool false, VV.ptr (VA.own 0 0), stD l, VV.agg (tsL t), I y, I m, I more, VV.int IntKind.u8 wh, byD B] [VB.cells (tsL t) (25 : TypeId), VB.vec l.length (chG (someF l B)) 1 (3 : TypeId), VB.cells [I V.v, I V.c, I V.a, VV.sl 4 V.P.length, VV.bool V.k] (49 : TypeId)]
 else False
 else False
 else False
 else False
 else bif inK IntKind.i64 ((↑i : Int) + (1 : Int)) then
 X VEx.normal [I ((↑i : Int) + (1 : Int)), I (↑l.length : Int), VV.sl 3 l.length, VV.ptr (VA.own 5 0), VV.sl 3 l.length, I 0, I (costF l c), VV.tl l.length 1 (chG c), VV.bool false, VV.ptr (VA.own 0 0), stD l, VV.agg (tsL t), I y, I m, I more, VV.int IntKind.u8 wh, byD B] [VB.cells (tsL t) (25 : TypeId), VB.vec l.length (chG (someF l B)) 1 (3 : TypeId), VB.cells [I V.v, I V.c, I V.a, VV.sl 4 V.P.length, VV.bool V.k] (49 : TypeId)]
 else False
 else False
 else False
 else False
 else False
 else bif inK IntKind.i64 ((↑i : Int) + (1 : Int)) then
 X VEx.normal [I ((↑i : Int) + (1 : Int)), I (↑l.length : Int), VV.sl 3 l.length, VV.ptr (VA.own 5 0), VV.sl 3 l.length, I 0, I (costF l c), VV.tl l.length 1 (chG c), VV.bool false, VV.ptr (VA.own 0 0), stD l, VV.agg (tsL t), I y, I m, I more, VV.int IntKind.u8 wh, byD B] [VB.cells (tsL t) (25 : TypeId), VB.vec l.length (chG (someF l B)) 1 (3 : TypeId), VB.cells [I V.v, I V.c, I V.a, VV.sl 4 V.P.length, VV.bool V.k] (49 : TypeId)]
 else False
 else X (VEx.exit 0) [I (↑i : Int), I (↑l.length : Int), VV.sl 3 l.length, VV.ptr (VA.own 5 0), VV.sl 3 l.length, I 0, I (costF l c), VV.tl l.length 1 (chG c), VV.bool false, VV.ptr (VA.own 0 0), stD l, VV.agg (tsL t), I y, I m, I more, VV.int IntKind.u8 wh, byD B] [VB.cells (tsL t) (25 : TypeId), VB.vec l.length (chG (someF l B)) 1 (3 : TypeId), VB.cells [I V.v, I V.c, I V.a, VV.sl 4 V.P.length, VV.bool V.k] (49 : TypeId)]) := by kernel_rfl

def lLe (l : List Stk) (t : Tst) (y m more wh : Int) (B : List Int) (c : Nat → Int) : LT := fun lock tt h K =>
  ∃ V : Vt, FitP lock h tt ⟨6, [0, 3, 5].zip (BLe l t B V)⟩ (dsLe.zip (VLe l t y m more wh B c 0)) ∧ (l.length ≤ 6 ∧ (V.c = costF l c → c = someF l B ∨ lexLt l.length c (someF l B))) ∧ ∀ i : Nat, K .normal (dsLe.zip (VLe l t y m more wh B c i)) ⟨6, [0, 3, 5].zip (BLe l t B V)⟩
theorem lyo_ev (l : List Stk) (t : Tst) (y m more : Int) (wh : Int) (B : List Int) (c : Nat → Int) (Q : VRes → Prop) : callN Try.prog (tabS [grK l t false, chK l t 0 (fun y m => chpF l t y m = some c) (rChp l c), rtY t, rsY l t, smB l B, blY l t, lmK l t true, alT]) (atF 8 [(0, lLe l t y m more wh B c)]) 10 20 0 (.fn 8) [stD l, .agg (tsL t), I y, I m, I more, .int .u8 wh, byD B] ⟨0, []⟩ (fun r _ => Q r) =
  (isD (VH.mk (0 + 1) [(0, VB.cells (tsL t) 25)]) 4 (stD l) (stD l) ∧ isD (VH.mk (0 + 1) [(0, VB.cells (tsL t) 25)]) 4 (VV.agg (tsL t)) (VV.agg (tsL t)) ∧ greatF l t (1000 : Int) = false ∧ bif decide ((↑B.length : Int) = (0 : Int)) then
 Q (VRes.ret (VV.bool true))
 else stD l = stD l ∧ VV.agg (tsL t) = VV.agg (tsL t) ∧ (chpE l t y m = (0 : Int) ∧ chpF l t y m = some c) ∧ isD (VH.mk (0 + 1) [(0, VB.cells (tsL t) 25)]) 3 (VV.agg (tsL t)) (VV.agg (tsL t)) ∧ (t.T.length ≤ 100000 ∧ okT t = true) ∧ isD (VH.mk (0 + 1) [(0, VB.cells (tsL t) 25)]) 3 (stD l) (stD l) ∧ isD (VH.mk (0 + 1) [(0, VB.cells (tsL t) 25)]) 3 (VV.agg (tsL t)) (VV.agg (tsL t)) ∧ (l.length ≤ 100000 ∧ t.T.length ≤ 100000 ∧ (decide (l.length ≤ 6) && !anyS l t) = true) ∧ isD (VH.mk (0 + 1) [(0, VB.cells (tsL t) 25)]) 4 (stD l) (stD l) ∧ isD (VH.mk (0 + 1) [(0, VB.cells (tsL t) 25)]) 4 (VV.agg (tsL t)) (VV.agg (tsL t)) ∧ ∃ (D : List Int), isD (VH.mk (0 + 1) [(0, VB.cells (tsL t) 25)]) 4 (VV.tl l.length 1 (chG c)) (inD D) ∧ bldE l t y D = (0 : Int) ∧ ∀ (V : Vt), V = vtF l t (chD D) y → bif !decide ((↑l.length : Int) = (↑l.length : Int)) then
 Q (VRes.ret (VV.bool false))
 else bif !decide (V.c = costF l c) then
 Q (VRes.ret (VV.bool false))
 else isD (VH.mk (3) ((2, VB.cells [I V.v, I V.c, I V.a, VV.sl (VH.mk (0 + 1) [(0, VB.cells (tsL t) 25)]).nx V.P.length, VV.bool V.k] 49) :: (2, VB.cells [I 0, I 0, I 0, VV.nils, VV.bool false] 49) :: ((VH.mk (0 + 1) [(0, VB.cells (tsL t) 25)]).nx, vtB V) :: (VH.mk (0 + 1) [(0, VB.cells (tsL t) 25)]).bs)) 4 (stD l) (stD l) ∧ isD (VH.mk (3) ((2, VB.cells [I V.v, I V.c, I V.a, VV.sl (VH.mk (0 + 1) [(0, VB.cells (tsL t) 25)]).nx V.P.length, VV.bool V.k] 49) :: (2, VB.cells [I 0, I 0, I 0, VV.nils, VV.bool false] 49) :: ((VH.mk (0 + 1) [(0, VB.cells (tsL t) 25)]).nx, vtB V) :: (VH.mk (0 + 1) [(0, VB.cells (tsL t) 25)]).bs)) 4 (VV.agg (tsL t)) (VV.agg (tsL t)) ∧ ∃ (D : List Int), isD (VH.mk (3) ((2, VB.cells [I V.v, I V.c, I V.a, VV.sl (VH.mk (0 + 1) [(0, VB.cells (tsL t) 25)]).nx V.P.length, VV.bool V.k] 49) :: (2, VB.cells [I 0, I 0, I 0, VV.nils, VV.bool false] 49) :: ((VH.mk (0 + 1) [(0, VB.cells (tsL t) 25)]).nx, vtB V) :: (VH.mk (0 + 1) [(0, VB.cells (tsL t) 25)]).bs)) 4 (VV.tl l.length 1 (chG c)) (inD D) ∧ lmF l t y m D = true ∧ isD (VH.mk (3) ((2, VB.cells [I V.v, I V.c, I V.a, VV.sl (VH.mk (0 + 1) [(0, VB.cells (tsL t) 25)]).nx V.P.length, VV.bool V.k] 49) :: (2, VB.cells [I 0, I 0, I 0, VV.nils, VV.bool false] 49) :: ((VH.mk (0 + 1) [(0, VB.cells (tsL t) 25)]).nx, vtB V) :: (VH.mk (0 + 1) [(0, VB.cells (tsL t) 25)]).bs)) 3 (stD l) (stD l) ∧ isD (VH.mk (3) ((2, VB.cells [I V.v, I V.c, I V.a, VV.sl (VH.mk (0 + 1) [(0, VB.cells (tsL t) 25)]).nx V.P.length, VV.bool V.k] 49) :: (2, VB.cells [I 0, I 0, I 0, VV.nils, VV.bool false] 49) :: ((VH.mk (0 + 1) [(0, VB.cells (tsL t) 25)]).nx, vtB V) :: (VH.mk (0 + 1) [(0, VB.cells (tsL t) 25)]).bs)) 3 (byD B) (byD B) ∧ (lB l ∧ u8B B) ∧ isD ((VH.mk (3) ((2, VB.cells [I V.v, I V.c, I V.a, VV.sl (VH.mk (0 + 1) [(0, VB.cells (tsL t) 25)]).nx V.P.length, VV.bool V.k] 49) :: (2, VB.cells [I 0, I 0, I 0, VV.nils, VV.bool false] 49) :: ((VH.mk (0 + 1) [(0, VB.cells (tsL t) 25)]).nx, vtB V) :: (VH.mk (0 + 1) [(0, VB.cells (tsL t) 25)]).bs)).new (VB.vec l.length (chG (someF l B)) 1 (3 : TypeId))) 4 (stD l) (stD l) ∧ isD ((VH.mk (3) ((2, VB.cells [I V.v, I V.c, I V.a, VV.sl (VH.mk (0 + 1) [(0, VB.cells (tsL t) 25)]).nx V.P.length, VV.bool V.k] 49) :: (2, VB.cells [I 0, I 0, I 0, VV.nils, VV.bool false] 49) :: ((VH.mk (0 + 1) [(0, VB.cells (tsL t) 25)]).nx, vtB V) :: (VH.mk (0 + 1) [(0, VB.cells (tsL t) 25)]).bs)).new (VB.vec l.length (chG (someF l B)) 1 (3 : TypeId))) 4 (VV.agg (tsL t)) (VV.agg (tsL t)) ∧ ∃ (D : List Int), isD ((VH.mk (3) ((2, VB.cells [I V.v, I V.c, I V.a, VV.sl (VH.mk (0 + 1) [(0, VB.cells (tsL t) 25)]).nx V.P.length, VV.bool V.k] 49) :: (2, VB.cells [I 0, I 0, I 0, VV.nils, VV.bool false] 49) :: ((VH.mk (0 + 1) [(0, VB.cells (tsL t) 25)]).nx, vtB V) :: (VH.mk (0 + 1) [(0, VB.cells (tsL t) 25)]).bs)).new (VB.vec l.length (chG (someF l B)) 1 (3 : TypeId))) 4 (VV.sl (VH.mk (3) ((2, VB.cells [I V.v, I V.c, I V.a, VV.sl (VH.mk (0 + 1) [(0, VB.cells (tsL t) 25)]).nx V.P.length, VV.bool V.k] 49) :: (2, VB.cells [I 0, I 0, I 0, VV.nils, VV.bool false] 49) :: ((VH.mk (0 + 1) [(0, VB.cells (tsL t) 25)]).nx, vtB V) :: (VH.mk (0 + 1) [(0, VB.cells (tsL t) 25)]).bs)).nx l.length) (inD D) ∧ lmF l t y m D = true ∧ isD ((VH.mk (3) ((2, VB.cells [I V.v, I V.c, I V.a, VV.sl (VH.mk (0 + 1) [(0, VB.cells (tsL t) 25)]).nx V.P.length, VV.bool V.k] 49) :: (2, VB.cells [I 0, I 0, I 0, VV.nils, VV.bool false] 49) :: ((VH.mk (0 + 1) [(0, VB.cells (tsL t) 25)]).nx, vtB V) :: (VH.mk (0 + 1) [(0, VB.cells (tsL t) 25)]).bs)).new (VB.vec l.length (chG (someF l B)) 1 (3 : TypeId))) 4 (stD l) (stD l) ∧ isD ((VH.mk (3) ((2, VB.cells [I V.v, I V.c, I V.a, VV.sl (VH.mk (0 + 1) [(0, VB.cells (tsL t) 25)]).nx V.P.length, VV.bool V.k] 49) :: (2, VB.cells [I 0, I 0, I 0, VV.nils, VV.bool false] 49) :: ((VH.mk (0 + 1) [(0, VB.cells (tsL t) 25)]).nx, vtB V) :: (VH.mk (0 + 1) [(0, VB.cells (tsL t) 25)]).bs)).new (VB.vec l.length (chG (someF l B)) 1 (3 : TypeId))) 4 (VV.agg (tsL t)) (VV.agg (tsL t)) ∧ ∃ (D : List Int), isD ((VH.mk (3) ((2, VB.cells [I V.v, I V.c, I V.a, VV.sl (VH.mk (0 + 1) [(0, VB.cells (tsL t) 25)]).nx V.P.length, VV.bool V.k] 49) :: (2, VB.cells [I 0, I 0, I 0, VV.nils, VV.bool false] 49) :: ((VH.mk (0 + 1) [(0, VB.cells (tsL t) 25)]).nx, vtB V) :: (VH.mk (0 + 1) [(0, VB.cells (tsL t) 25)]).bs)).new (VB.vec l.length (chG (someF l B)) 1 (3 : TypeId))) 4 (VV.sl (VH.mk (3) ((2, VB.cells [I V.v, I V.c, I V.a, VV.sl (VH.mk (0 + 1) [(0, VB.cells (tsL t) 25)]).nx V.P.length, VV.bool V.k] 49) :: (2, VB.cells [I 0, I 0, I 0, VV.nils, VV.bool false] 49) :: ((VH.mk (0 + 1) [(0, VB.cells (tsL t) 25)]).nx, vtB V) :: (VH.mk (0 + 1) [(0, VB.cells (tsL t) 25)]).bs)).nx l.length) (inD D) ∧ bldE l t y D = (0 : Int) ∧ ∀ (V_1 : Vt), V_1 = vtF l t (chD D) y → bif decide (V_1.c < costF l c) then
 Q (VRes.ret (VV.bool false))
 else ∃ (V_2 : Vt), FitP 0 (VH.mk (6) ((5, VB.cells [I V_1.v, I V_1.c, I V_1.a, VV.sl ((VH.mk (3) ((2, VB.cells [I V.v, I V.c, I V.a, VV.sl (VH.mk (0 + 1) [(0, VB.cells (tsL t) 25)]).nx V.P.length, VV.bool V.k] 49) :: (2, VB.cells [I 0, I 0, I 0, VV.nils, VV.bool false] 49) :: ((VH.mk (0 + 1) [(0, VB.cells (tsL t) 25)]).nx, vtB V) :: (VH.mk (0 + 1) [(0, VB.cells (tsL t) 25)]).bs)).new (VB.vec l.length (chG (someF l B)) 1 (3 : TypeId))).nx V_1.P.length, VV.bool V_1.k] 49) :: (5, VB.cells [I 0, I 0, I 0, VV.nils, VV.bool false] 49) :: (((VH.mk (3) ((2, VB.cells [I V.v, I V.c, I V.a, VV.sl (VH.mk (0 + 1) [(0, VB.cells (tsL t) 25)]).nx V.P.length, VV.bool V.k] 49) :: (2, VB.cells [I 0, I 0, I 0, VV.nils, VV.bool false] 49) :: ((VH.mk (0 + 1) [(0, VB.cells (tsL t) 25)]).nx, vtB V) :: (VH.mk (0 + 1) [(0, VB.cells (tsL t) 25)]).bs)).new (VB.vec l.length (chG (someF l B)) 1 (3 : TypeId))).nx, vtB V_1) :: ((VH.mk (3) ((2, VB.cells [I V.v, I V.c, I V.a, VV.sl (VH.mk (0 + 1) [(0, VB.cells (tsL t) 25)]).nx V.P.length, VV.bool V.k] 49) :: (2, VB.cells [I 0, I 0, I 0, VV.nils, VV.bool false] 49) :: ((VH.mk (0 + 1) [(0, VB.cells (tsL t) 25)]).nx, vtB V) :: (VH.mk (0 + 1) [(0, VB.cells (tsL t) 25)]).bs)).new (VB.vec l.length (chG (someF l B)) 1 (3 : TypeId))).bs)) [(137, I 0), (136, I (↑l.length : Int)), (135, VV.sl (VH.mk (3) ((2, VB.cells [I V.v, I V.c, I V.a, VV.sl (VH.mk (0 + 1) [(0, VB.cells (tsL t) 25)]).nx V.P.length, VV.bool V.k] 49) :: (2, VB.cells [I 0, I 0, I 0, VV.nils, VV.bool false] 49) :: ((VH.mk (0 + 1) [(0, VB.cells (tsL t) 25)]).nx, vtB V) :: (VH.mk (0 + 1) [(0, VB.cells (tsL t) 25)]).bs)).nx l.length), (134, VV.bool false), (134, VV.bool (decide (V_1.c < costF l c))), (133, VV.bool (decide (V_1.c < costF l c))), (129, VV.bool false), (132, I (costF l c)), (129, VV.bool false), (131, I V_1.c), (129, VV.bool false), (130, VV.ptr (VA.own (5) (1))), (129, VV.bool false), (129, VV.bool !decide ((0 : Int) = (0 : Int))), (128, VV.bool !decide ((0 : Int) = (0 : Int))), (127, I 0), (22, I 0), (21, VV.ptr (VA.own (5) 0)), (126, I 0), (125, VV.agg [I V_1.v, I V_1.c, I V_1.a, VV.sl ((VH.mk (3) ((2, VB.cells [I V.v, I V.c, I V.a, VV.sl (VH.mk (0 + 1) [(0, VB.cells (tsL t) 25)]).nx V.P.length, VV.bool V.k] 49) :: (2, VB.cells [I 0, I 0, I 0, VV.nils, VV.bool false] 49) :: ((VH.mk (0 + 1) [(0, VB.cells (tsL t) 25)]).nx, vtB V) :: (VH.mk (0 + 1) [(0, VB.cells (tsL t) 25)]).bs)).new (VB.vec l.length (chG (someF l B)) 1 (3 : TypeId))).nx V_1.P.length, VV.bool V_1.k]), (119, VV.tup [vtV V_1 ((VH.mk (3) ((2, VB.cells [I V.v, I V.c, I V.a, VV.sl (VH.mk (0 + 1) [(0, VB.cells (tsL t) 25)]).nx V.P.length, VV.bool V.k] 49) :: (2, VB.cells [I 0, I 0, I 0, VV.nils, VV.bool false] 49) :: ((VH.mk (0 + 1) [(0, VB.cells (tsL t) 25)]).nx, vtB V) :: (VH.mk (0 + 1) [(0, VB.cells (tsL t) 25)]).bs)).new (VB.vec l.length (chG (someF l B)) 1 (3 : TypeId))).nx, I 0]), (124, VV.tup [vtV V_1 ((VH.mk (3) ((2, VB.cells [I V.v, I V.c, I V.a, VV.sl (VH.mk (0 + 1) [(0, VB.cells (tsL t) 25)]).nx V.P.length, VV.bool V.k] 49) :: (2, VB.cells [I 0, I 0, I 0, VV.nils, VV.bool false] 49) :: ((VH.mk (0 + 1) [(0, VB.cells (tsL t) 25)]).nx, vtB V) :: (VH.mk (0 + 1) [(0, VB.cells (tsL t) 25)]).bs)).new (VB.vec l.length (chG (someF l B)) 1 (3 : TypeId))).nx, I 0]), (123, VV.sl (VH.mk (3) ((2, VB.cells [I V.v, I V.c, I V.a, VV.sl (VH.mk (0 + 1) [(0, VB.cells (tsL t) 25)]).nx V.P.length, VV.bool V.k] 49) :: (2, VB.cells [I 0, I 0, I 0, VV.nils, VV.bool false] 49) :: ((VH.mk (0 + 1) [(0, VB.cells (tsL t) 25)]).nx, vtB V) :: (VH.mk (0 + 1) [(0, VB.cells (tsL t) 25)]).bs)).nx l.length), (122, I y), (121, VV.agg (tsL t)), (120, stD l), (118, VV.bool true), (118, VV.bool true), (117, VV.sl (VH.mk (3) ((2, VB.cells [I V.v, I V.c, I V.a, VV.sl (VH.mk (0 + 1) [(0, VB.cells (tsL t) 25)]).nx V.P.length, VV.bool V.k] 49) :: (2, VB.cells [I 0, I 0, I 0, VV.nils, VV.bool false] 49) :: ((VH.mk (0 + 1) [(0, VB.cells (tsL t) 25)]).nx, vtB V) :: (VH.mk (0 + 1) [(0, VB.cells (tsL t) 25)]).bs)).nx l.length), (116, I m), (115, I y), (114, VV.agg (tsL t)), (113, stD l), (20, VV.sl (VH.mk (3) ((2, VB.cells [I V.v, I V.c, I V.a, VV.sl (VH.mk (0 + 1) [(0, VB.cells (tsL t) 25)]).nx V.P.length, VV.bool V.k] 49) :: (2, VB.cells [I 0, I 0, I 0, VV.nils, VV.bool false] 49) :: ((VH.mk (0 + 1) [(0, VB.cells (tsL t) 25)]).nx, vtB V) :: (VH.mk (0 + 1) [(0, VB.cells (tsL t) 25)]).bs)).nx l.length), (112, VV.sl (VH.mk (3) ((2, VB.cells [I V.v, I V.c, I V.a, VV.sl (VH.mk (0 + 1) [(0, VB.cells (tsL t) 25)]).nx V.P.length, VV.bool V.k] 49) :: (2, VB.cells [I 0, I 0, I 0, VV.nils, VV.bool false] 49) :: ((VH.mk (0 + 1) [(0, VB.cells (tsL t) 25)]).nx, vtB V) :: (VH.mk (0 + 1) [(0, VB.cells (tsL t) 25)]).bs)).nx l.length), (111, byD B), (110, stD l), (109, VV.bool false), (109, VV.bool !true), (108, VV.bool !true), (101, VV.bool false), (107, VV.bool true), (101, VV.bool false), (106, VV.tl l.length 1 (chG c)), (101, VV.bool false), (105, I m), (101, VV.bool false), (104, I y), (101, VV.bool false), (103, VV.agg (tsL t)), (101, VV.bool false), (102, stD l), (101, VV.bool false), (101, VV.bool !decide (V.c = costF l c)), (100, VV.bool !decide (V.c = costF l c)), (99, VV.bool !decide (V.c = costF l c)), (95, VV.bool false), (98, I (costF l c)), (95, VV.bool false), (97, I V.c), (95, VV.bool false), (96, VV.ptr (VA.own (2) (1))), (95, VV.bool false), (95, VV.bool !decide ((↑l.length : Int) = (↑l.length : Int))), (94, VV.bool !decide ((↑l.length : Int) = (↑l.length : Int))), (93, VV.bool !decide ((↑l.length : Int) = (↑l.length : Int))), (88, VV.bool false), (92, I (↑l.length : Int)), (88, VV.bool false), (91, stD l), (88, VV.bool false), (90, I (↑l.length : Int)), (88, VV.bool false), (89, VV.tl l.length 1 (chG c)), (88, VV.bool false), (88, VV.bool !decide ((0 : Int) = (0 : Int))), (87, VV.bool !decide ((0 : Int) = (0 : Int))), (86, I 0), (19, I 0), (18, VV.ptr (VA.own (2) 0)), (85, I 0), (84, VV.agg [I V.v, I V.c, I V.a, VV.sl (VH.mk (0 + 1) [(0, VB.cells (tsL t) 25)]).nx V.P.length, VV.bool V.k]), (78, VV.tup [vtV V (VH.mk (0 + 1) [(0, VB.cells (tsL t) 25)]).nx, I 0]), (83, VV.tup [vtV V (VH.mk (0 + 1) [(0, VB.cells (tsL t) 25)]).nx, I 0]), (82, VV.tl l.length 1 (chG c)), (81, I y), (80, VV.agg (tsL t)), (79, stD l), (77, VV.bool true), (77, VV.bool (decide ((0 : Int) = (0 : Int)))), (76, I 0), (75, VV.bool false), (75, VV.bool !true), (74, VV.bool !true), (70, VV.bool false), (73, VV.bool true), (70, VV.bool false), (72, VV.agg (tsL t)), (70, VV.bool false), (71, stD l), (70, VV.bool false), (70, VV.bool !true), (69, VV.bool !true), (68, VV.bool true), (67, VV.agg (tsL t)), (56, VV.bool false), (56, VV.bool false), (55, udf), (53, VV.bool false), (54, udf), (53, VV.bool false), (53, VV.bool !decide ((0 : Int) = (0 : Int))), (52, VV.bool !decide ((0 : Int) = (0 : Int))), (51, I 0), (17, I 0), (16, I (costF l c)), (15, VV.tl l.length 1 (chG c)), (50, I 0), (49, I (costF l c)), (48, VV.tl l.length 1 (chG c)), (42, VV.tup [VV.tl l.length 1 (chG c), I (costF l c), I 0]), (47, VV.tup [VV.tl l.length 1 (chG c), I (costF l c), I 0]), (46, I m), (45, I y), (44, VV.agg (tsL t)), (43, stD l), (40, VV.bool false), (40, VV.bool (decide ((↑B.length : Int) = (0 : Int)))), (39, VV.bool (decide ((↑B.length : Int) = (0 : Int)))), (36, VV.bool false), (38, I (↑B.length : Int)), (36, VV.bool false), (37, byD B), (36, VV.bool false), (36, VV.bool false), (35, VV.bool false), (34, VV.agg (tsL t)), (33, stD l), (14, VV.bool false), (8, VV.ptr (VA.own 0 0)), (0, stD l), (1, VV.agg (tsL t)), (2, I y), (3, I m), (4, I more), (5, VV.int IntKind.u8 wh), (6, byD B)] (VH.mk 6 ([0, 3, 5].zip (BLe l t B V_2))) (dsLe.zip (VLe l t y m more wh B c 0)) ∧ (l.length ≤ 6 ∧ (V_2.c = costF l c → c = someF l B ∨ lexLt l.length c (someF l B))) ∧ ∀ (i : Nat), bif decide (more ≥ m) then
 bif decide (more ≤ (1048576 : Int)) then
 isD (VH.mk 6 ([0, 3, 5].zip (BLe l t B V_2))) 4 (stD l) (stD l) ∧ isD (VH.mk 6 ([0, 3, 5].zip (BLe l t B V_2))) 4 (VV.agg (tsL t)) (VV.agg (tsL (farT t t.far))) ∧ ∀ (n e : Int), n = chpC l (farT t t.far) y more ∧ e = chpE l (farT t t.far) y more → bif decide (e = (0 : Int)) then
 bif decide (n < costF l c) then
 bif decide (m > (0 : Int)) then
 Q (VRes.ret (VV.bool false))
 else bif inK IntKind.i64 wh then
 bif inK IntKind.i64 (t.far + wh) then
 isD (VH.mk (7) ((6, VB.cells [VV.tl t.T.length 1 (dG t.T), I (min (1000 : Int) (t.far + wh)), I t.least] 25) :: (6, VB.cells (tsL t) 25) :: (6, VB.cells [VV.nils, I 0, I 0] 25) :: [0, 3, 5].zip (BLe l t B V_2))) 4 (stD l) (stD l) ∧ isD (VH.mk (7) ((6, VB.cells [VV.tl t.T.length 1 (dG t.T), I (min (1000 : Int) (t.far + wh)), I t.least] 25) :: (6, VB.cells (tsL t) 25) :: (6, VB.cells [VV.nils, I 0, I 0] 25) :: [0, 3, 5].zip (BLe l t B V_2))) 4 (VV.agg [VV.tl t.T.length 1 (dG t.T), I (min (1000 : Int) (t.far + wh)), I t.least]) (VV.agg (tsL (farT t (min (1000 : Int) (t.far + wh))))) ∧ ∀ (n e : Int), n = chpC l (farT t (min (1000 : Int) (t.far + wh))) y m ∧ e = chpE l (farT t (min (1000 : Int) (t.far + wh))) y m → bif !decide (e = (0 : Int)) then
 Q (VRes.ret (VV.bool false))
 else bif decide (n > costF l c) then
 Q (VRes.ret (VV.bool false))
 else bif decide ((↑l.length : Int) = (0 : Int)) then
 Q (VRes.ret (VV.bool true))
 else bif inK IntKind.i64 wh then
 bif decide ((↑l.length : Int) = (0 : Int)) then
 False
 else bif roomB (0 + l.length) (56) then
 bif decide ((0 : Int) ≤ remZ wh (↑l.length : Int) ∧ remZ wh (↑l.length : Int) < (↑l.length : Int)) then
 bif inK IntKind.i64 ((l.getD (remZ wh (↑l.length : Int)).toNat k0).casks + (1 : Int)) then
 bif decide ((0 : Int) ≤ remZ wh (↑l.length : Int) ∧ remZ wh (↑l.length : Int) < (↑(0 + l.length) : Int)) then
 bif (0 + l.length).beq (0 + l.length) && Nat.ble 1 Try.prog.types[32].size then
 bif (0 + l.length).beq (0 + l.length) && [I (min (6 : Int) ((l.getD (remZ wh (↑l.length : Int)).toNat k0).casks + (1 : Int)))].all VV.one && belL 0 [I (min (6 : Int) ((l.getD (remZ wh (↑l.length : Int)).toNat k0).casks + (1 : Int)))] then
 ∃ (l' : List Stk), isD (VH.mk (8) ((7, VB.vec (0 + l.length) (atG (remZ wh (↑l.length : Int)).toNat (catG 0 (fun (j : Nat) => List.take (5) (List.drop (j * (5)) [])) (stG l)) (setL (catG 0 (fun (j : Nat) => List.take (5) (List.drop (j * (5)) [])) (stG l) (remZ wh (↑l.length : Int)).toNat) 0 [I (min (6 : Int) ((l.getD (remZ wh (↑l.length : Int)).toNat k0).casks + (1 : Int)))])) (5) 32) :: (7, VB.vec (0 + l.length) (catG 0 (fun (j : Nat) => List.take (5) (List.drop (j * (5)) [])) (stG l)) (5) 32) :: (7, VB.vec 0 (fun (j : Nat) => List.take (5) (List.drop (j * (5)) [])) (5) 32) :: (6, VB.cells [VV.tl t.T.length 1 (dG t.T), I (min (1000 : Int) (t.far + wh)), I t.least] 25) :: (6, VB.cells (tsL t) 25) :: (6, VB.cells [VV.nils, I 0, I 0] 25) :: [0, 3, 5].zip (BLe l t B V_2))) 4 (VV.sl (7) (0 + l.length)) (stD l') ∧ isD (VH.mk (8) ((7, VB.vec (0 + l.length) (atG (remZ wh (↑l.length : Int)).toNat (catG 0 (fun (j : Nat) => List.take (5) (List.drop (j * (5)) [])) (stG l)) (setL (catG 0 (fun (j : Nat) => List.take (5) (List.drop (j * (5)) [])) (stG l) (remZ wh (↑l.length : Int)).toNat) 0 [I (min (6 : Int) ((l.getD (remZ wh (↑l.length : Int)).toNat k0).casks + (1 : Int)))])) (5) 32) :: (7, VB.vec (0 + l.length) (catG 0 (fun (j : Nat) => List.take (5) (List.drop (j * (5)) [])) (stG l)) (5) 32) :: (7, VB.vec 0 (fun (j : Nat) => List.take (5) (List.drop (j * (5)) [])) (5) 32) :: (6, VB.cells [VV.tl t.T.length 1 (dG t.T), I (min (1000 : Int) (t.far + wh)), I t.least] 25) :: (6, VB.cells (tsL t) 25) :: (6, VB.cells [VV.nils, I 0, I 0] 25) :: [0, 3, 5].zip (BLe l t B V_2))) 4 (VV.agg (tsL t)) (VV.agg (tsL t)) ∧ ∀ (n e : Int), n = chpC l' t y m ∧ e = chpE l' t y m → bif decide (e = (0 : Int)) then
 bif decide (n ≤ costF l c) then
 Q (VRes.ret (VV.bool true))
 else Q (VRes.ret (VV.bool false))
 else Q (VRes.ret (VV.bool false))
 else False
 else False
 else False
 else False
 else False
 else False
 else False
 else False
 else False
 else bif inK IntKind.i64 wh then
 bif inK IntKind.i64 (t.far + wh) then
 isD (VH.mk (7) ((6, VB.cells [VV.tl t.T.length 1 (dG t.T), I (min (1000 : Int) (t.far + wh)), I t.least] 25) :: (6, VB.cells (tsL t) 25) :: (6, VB.cells [VV.nils, I 0, I 0] 25) :: [0, 3, 5].zip (BLe l t B V_2))) 4 (stD l) (stD l) ∧ isD (VH.mk (7) ((6, VB.cells [VV.tl t.T.length 1 (dG t.T), I (min (1000 : Int) (t.far + wh)), I t.least] 25) :: (6, VB.cells (tsL t) 25) :: (6, VB.cells [VV.nils, I 0, I 0] 25) :: [0, 3, 5].zip (BLe l t B V_2))) 4 (VV.agg [VV.tl t.T.length 1 (dG t.T), I (min (1000 : Int) (t.far + wh)), I t.least]) (VV.agg (tsL (farT t (min (1000 : Int) (t.far + wh))))) ∧ ∀ (n e : Int), n = chpC l (farT t (min (1000 : Int) (t.far + wh))) y m ∧ e = chpE l (farT t (min (1000 : Int) (t.far + wh))) y m → bif !decide (e = (0 : Int)) then
 Q (VRes.ret (VV.bool false))
 else bif decide (n > costF l c) then
 Q (VRes.ret (VV.bool false))
 else bif decide ((↑l.length : Int) = (0 : Int)) then
 Q (VRes.ret (VV.bool true))
 else bif inK IntKind.i64 wh then
 bif decide ((↑l.length : Int) = (0 : Int)) then
 False
 else bif roomB (0 + l.length) (56) then
 bif decide ((0 : Int) ≤ remZ wh (↑l.length : Int) ∧ remZ wh (↑l.length : Int) < (↑l.length : Int)) then
 bif inK IntKind.i64 ((l.getD (remZ wh (↑l.length : Int)).toNat k0).casks + (1 : Int)) then
 bif decide ((0 : Int) ≤ remZ wh (↑l.length : Int) ∧ remZ wh (↑l.length : Int) < (↑(0 + l.length) : Int)) then
 bif (0 + l.length).beq (0 + l.length) && Nat.ble 1 Try.prog.types[32].size then
 bif (0 + l.length).beq (0 + l.length) && [I (min (6 : Int) ((l.getD (remZ wh (↑l.length : Int)).toNat k0).casks + (1 : Int)))].all VV.one && belL 0 [I (min (6 : Int) ((l.getD (remZ wh (↑l.length : Int)).toNat k0).casks + (1 : Int)))] then
 ∃ (l' : List Stk), isD (VH.mk (8) ((7, VB.vec (0 + l.length) (atG (remZ wh (↑l.length : Int)).toNat (catG 0 (fun (j : Nat) => List.take (5) (List.drop (j * (5)) [])) (stG l)) (setL (catG 0 (fun (j : Nat) => List.take (5) (List.drop (j * (5)) [])) (stG l) (remZ wh (↑l.length : Int)).toNat) 0 [I (min (6 : Int) ((l.getD (remZ wh (↑l.length : Int)).toNat k0).casks + (1 : Int)))])) (5) 32) :: (7, VB.vec (0 + l.length) (catG 0 (fun (j : Nat) => List.take (5) (List.drop (j * (5)) [])) (stG l)) (5) 32) :: (7, VB.vec 0 (fun (j : Nat) => List.take (5) (List.drop (j * (5)) [])) (5) 32) :: (6, VB.cells [VV.tl t.T.length 1 (dG t.T), I (min (1000 : Int) (t.far + wh)), I t.least] 25) :: (6, VB.cells (tsL t) 25) :: (6, VB.cells [VV.nils, I 0, I 0] 25) :: [0, 3, 5].zip (BLe l t B V_2))) 4 (VV.sl (7) (0 + l.length)) (stD l') ∧ isD (VH.mk (8) ((7, VB.vec (0 + l.length) (atG (remZ wh (↑l.length : Int)).toNat (catG 0 (fun (j : Nat) => List.take (5) (List.drop (j * (5)) [])) (stG l)) (setL (catG 0 (fun (j : Nat) => List.take (5) (List.drop (j * (5)) [])) (stG l) (remZ wh (↑l.length : Int)).toNat) 0 [I (min (6 : Int) ((l.getD (remZ wh (↑l.length : Int)).toNat k0).casks + (1 : Int)))])) (5) 32) :: (7, VB.vec (0 + l.length) (catG 0 (fun (j : Nat) => List.take (5) (List.drop (j * (5)) [])) (stG l)) (5) 32) :: (7, VB.vec 0 (fun (j : Nat) => List.take (5) (List.drop (j * (5)) [])) (5) 32) :: (6, VB.cells [VV.tl t.T.length 1 (dG t.T), I (min (1000 : Int) (t.far + wh)), I t.least] 25) :: (6, VB.cells (tsL t) 25) :: (6, VB.cells [VV.nils, I 0, I 0] 25) :: [0, 3, 5].zip (BLe l t B V_2))) 4 (VV.agg (tsL t)) (VV.agg (tsL t)) ∧ ∀ (n e : Int), n = chpC l' t y m ∧ e = chpE l' t y m → bif decide (e = (0 : Int)) then
 bif decide (n ≤ costF l c) then
 Q (VRes.ret (VV.bool true))
 else Q (VRes.ret (VV.bool false))
 else Q (VRes.ret (VV.bool false))
 else False
 else False
 else False
 else False
 else False
 else False
 else False
 else False
 else False
 else bif inK IntKind.i64 wh then
 bif inK IntKind.i64 (t.far + wh) then
 isD (VH.mk (7) ((6, VB.cells [VV.tl t.T.length 1 (dG t.T), I (min (1000 : Int) (t.far + wh)), I t.least] 25) :: (6, VB.cells (tsL t) 25) :: (6, VB.cells [VV.nils, I 0, I 0] 25) :: [0, 3, 5].zip (BLe l t B V_2))) 4 (stD l) (stD l) ∧ isD (VH.mk (7) ((6, VB.cells [VV.tl t.T.length 1 (dG t.T), I (min (1000 : Int) (t.far + wh)), I t.least] 25) :: (6, VB.cells (tsL t) 25) :: (6, VB.cells [VV.nils, I 0, I 0] 25) :: [0, 3, 5].zip (BLe l t B V_2))) 4 (VV.agg [VV.tl t.T.length 1 (dG t.T), I (min (1000 : Int) (t.far + wh)), I t.least]) (VV.agg (tsL (farT t (min (1000 : Int) (t.far + wh))))) ∧ ∀ (n e : Int), n = chpC l (farT t (min (1000 : Int) (t.far + wh))) y m ∧ e = chpE l (farT t (min (1000 : Int) (t.far + wh))) y m → bif !decide (e = (0 : Int)) then
 Q (VRes.ret (VV.bool false))
 else bif decide (n > costF l c) then
 Q (VRes.ret (VV.bool false))
 else bif decide ((↑l.length : Int) = (0 : Int)) then
 Q (VRes.ret (VV.bool true))
 else bif inK IntKind.i64 wh then
 bif decide ((↑l.length : Int) = (0 : Int)) then
 False
 else bif roomB (0 + l.length) (56) then
 bif decide ((0 : Int) ≤ remZ wh (↑l.length : Int) ∧ remZ wh (↑l.length : Int) < (↑l.length : Int)) then
 bif inK IntKind.i64 ((l.getD (remZ wh (↑l.length : Int)).toNat k0).casks + (1 : Int)) then
 bif decide ((0 : Int) ≤ remZ wh (↑l.length : Int) ∧ remZ wh (↑l.length : Int) < (↑(0 + l.length) : Int)) then
 bif (0 + l.length).beq (0 + l.length) && Nat.ble 1 Try.prog.types[32].size then
 bif (0 + l.length).beq (0 + l.length) && [I (min (6 : Int) ((l.getD (remZ wh (↑l.length : Int)).toNat k0).casks + (1 : Int)))].all VV.one && belL 0 [I (min (6 : Int) ((l.getD (remZ wh (↑l.length : Int)).toNat k0).casks + (1 : Int)))] then
 ∃ (l' : List Stk), isD (VH.mk (8) ((7, VB.vec (0 + l.length) (atG (remZ wh (↑l.length : Int)).toNat (catG 0 (fun (j : Nat) => List.take (5) (List.drop (j * (5)) [])) (stG l)) (setL (catG 0 (fun (j : Nat) => List.take (5) (List.drop (j * (5)) [])) (stG l) (remZ wh (↑l.length : Int)).toNat) 0 [I (min (6 : Int) ((l.getD (remZ wh (↑l.length : Int)).toNat k0).casks + (1 : Int)))])) (5) 32) :: (7, VB.vec (0 + l.length) (catG 0 (fun (j : Nat) => List.take (5) (List.drop (j * (5)) [])) (stG l)) (5) 32) :: (7, VB.vec 0 (fun (j : Nat) => List.take (5) (List.drop (j * (5)) [])) (5) 32) :: (6, VB.cells [VV.tl t.T.length 1 (dG t.T), I (min (1000 : Int) (t.far + wh)), I t.least] 25) :: (6, VB.cells (tsL t) 25) :: (6, VB.cells [VV.nils, I 0, I 0] 25) :: [0, 3, 5].zip (BLe l t B V_2))) 4 (VV.sl (7) (0 + l.length)) (stD l') ∧ isD (VH.mk (8) ((7, VB.vec (0 + l.length) (atG (remZ wh (↑l.length : Int)).toNat (catG 0 (fun (j : Nat) => List.take (5) (List.drop (j * (5)) [])) (stG l)) (setL (catG 0 (fun (j : Nat) => List.take (5) (List.drop (j * (5)) [])) (stG l) (remZ wh (↑l.length : Int)).toNat) 0 [I (min (6 : Int) ((l.getD (remZ wh (↑l.length : Int)).toNat k0).casks + (1 : Int)))])) (5) 32) :: (7, VB.vec (0 + l.length) (catG 0 (fun (j : Nat) => List.take (5) (List.drop (j * (5)) [])) (stG l)) (5) 32) :: (7, VB.vec 0 (fun (j : Nat) => List.take (5) (List.drop (j * (5)) [])) (5) 32) :: (6, VB.cells [VV.tl t.T.length 1 (dG t.T), I (min (1000 : Int) (t.far + wh)), I t.least] 25) :: (6, VB.cells (tsL t) 25) :: (6, VB.cells [VV.nils, I 0, I 0] 25) :: [0, 3, 5].zip (BLe l t B V_2))) 4 (VV.agg (tsL t)) (VV.agg (tsL t)) ∧ ∀ (n e : Int), n = chpC l' t y m ∧ e = chpE l' t y m → bif decide (e = (0 : Int)) then
 bif decide (n ≤ costF l c) then
 Q (VRes.ret (VV.bool true))
 else Q (VRes.ret (VV.bool false))
 else Q (VRes.ret (VV.bool false))
 else False
 else False
 else False
 else False
 else False
 else False
 else False
 else False
 else False
 else bif inK IntKind.i64 wh then
 bif inK IntKind.i64 (t.far + wh) then
 isD (VH.mk (7) ((6, VB.cells [VV.tl t.T.length 1 (dG t.T), I (min (1000 : Int) (t.far + wh)), I t.least] 25) :: (6, VB.cells (tsL t) 25) :: (6, VB.cells [VV.nils, I 0, I 0] 25) :: [0, 3, 5].zip (BLe l t B V_2))) 4 (stD l) (stD l) ∧ isD (VH.mk (7) ((6, VB.cells [VV.tl t.T.length 1 (dG t.T), I (min (1000 : Int) (t.far + wh)), I t.least] 25) :: (6, VB.cells (tsL t) 25) :: (6, VB.cells [VV.nils, I 0, I 0] 25) :: [0, 3, 5].zip (BLe l t B V_2))) 4 (VV.agg [VV.tl t.T.length 1 (dG t.T), I (min (1000 : Int) (t.far + wh)), I t.least]) (VV.agg (tsL (farT t (min (1000 : Int) (t.far + wh))))) ∧ ∀ (n e : Int), n = chpC l (farT t (min (1000 : Int) (t.far + wh))) y m ∧ e = chpE l (farT t (min (1000 : Int) (t.far + wh))) y m → bif !decide (e = (0 : Int)) then
 Q (VRes.ret (VV.bool false))
 else bif decide (n > costF l c) then
 Q (VRes.ret (VV.bool false))
 else bif decide ((↑l.length : Int) = (0 : Int)) then
 Q (VRes.ret (VV.bool true))
 else bif inK IntKind.i64 wh then
 bif decide ((↑l.length : Int) = (0 : Int)) then
 False
 else bif roomB (0 + l.length) (56) then
 bif decide ((0 : Int) ≤ remZ wh (↑l.length : Int) ∧ remZ wh (↑l.length : Int) < (↑l.length : Int)) then
 bif inK IntKind.i64 ((l.getD (remZ wh (↑l.length : Int)).toNat k0).casks + (1 : Int)) then
 bif decide ((0 : Int) ≤ remZ wh (↑l.length : Int) ∧ remZ wh (↑l.length : Int) < (↑(0 + l.length) : Int)) then
 bif (0 + l.length).beq (0 + l.length) && Nat.ble 1 Try.prog.types[32].size then
 bif (0 + l.length).beq (0 + l.length) && [I (min (6 : Int) ((l.getD (remZ wh (↑l.length : Int)).toNat k0).casks + (1 : Int)))].all VV.one && belL 0 [I (min (6 : Int) ((l.getD (remZ wh (↑l.length : Int)).toNat k0).casks + (1 : Int)))] then
 ∃ (l' : List Stk), isD (VH.mk (8) ((7, VB.vec (0 + l.length) (atG (remZ wh (↑l.length : Int)).toNat (catG 0 (fun (j : Nat) => List.take (5) (List.drop (j * (5)) [])) (stG l)) (setL (catG 0 (fun (j : Nat) => List.take (5) (List.drop (j * (5)) [])) (stG l) (remZ wh (↑l.length : Int)).toNat) 0 [I (min (6 : Int) ((l.getD (remZ wh (↑l.length : Int)).toNat k0).casks + (1 : Int)))])) (5) 32) :: (7, VB.vec (0 + l.length) (catG 0 (fun (j : Nat) => List.take (5) (List.drop (j * (5)) [])) (stG l)) (5) 32) :: (7, VB.vec 0 (fun (j : Nat) => List.take (5) (List.drop (j * (5)) [])) (5) 32) :: (6, VB.cells [VV.tl t.T.length 1 (dG t.T), I (min (1000 : Int) (t.far + wh)), I t.least] 25) :: (6, VB.cells (tsL t) 25) :: (6, VB.cells [VV.nils, I 0, I 0] 25) :: [0, 3, 5].zip (BLe l t B V_2))) 4 (VV.sl (7) (0 + l.length)) (stD l') ∧ isD (VH.mk (8) ((7, VB.vec (0 + l.length) (atG (remZ wh (↑l.length : Int)).toNat (catG 0 (fun (j : Nat) => List.take (5) (List.drop (j * (5)) [])) (stG l)) (setL (catG 0 (fun (j : Nat) => List.take (5) (List.drop (j * (5)) [])) (stG l) (remZ wh (↑l.length : Int)).toNat) 0 [I (min (6 : Int) ((l.getD (remZ wh (↑l.length : Int)).toNat k0).casks + (1 : Int)))])) (5) 32) :: (7, VB.vec (0 + l.length) (catG 0 (fun (j : Nat) => List.take (5) (List.drop (j * (5)) [])) (stG l)) (5) 32) :: (7, VB.vec 0 (fun (j : Nat) => List.take (5) (List.drop (j * (5)) [])) (5) 32) :: (6, VB.cells [VV.tl t.T.length 1 (dG t.T), I (min (1000 : Int) (t.far + wh)), I t.least] 25) :: (6, VB.cells (tsL t) 25) :: (6, VB.cells [VV.nils, I 0, I 0] 25) :: [0, 3, 5].zip (BLe l t B V_2))) 4 (VV.agg (tsL t)) (VV.agg (tsL t)) ∧ ∀ (n e : Int), n = chpC l' t y m ∧ e = chpE l' t y m → bif decide (e = (0 : Int)) then
 bif decide (n ≤ costF l c) then
 Q (VRes.ret (VV.bool true))
 else Q (VRes.ret (VV.bool false))
 else Q (VRes.ret (VV.bool false))
 else False
 else False
 else False
 else False
 else False
 else False
 else False
 else False
 else False
 else bif inK IntKind.i64 wh then
 bif inK IntKind.i64 (t.far + wh) then
 isD (VH.mk (7) ((6, VB.cells [VV.tl t.T.length 1 (dG t.T), I (min (1000 : Int) (t.far + wh)), I t.least] 25) :: (6, VB.cells (tsL t) 25) :: (6, VB.cells [VV.nils, I 0, I 0] 25) :: [0, 3, 5].zip (BLe l t B V_2))) 4 (stD l) (stD l) ∧ isD (VH.mk (7) ((6, VB.cells [VV.tl t.T.length 1 (dG t.T), I (min (1000 : Int) (t.far + wh)), I t.least] 25) :: (6, VB.cells (tsL t) 25) :: (6, VB.cells [VV.nils, I 0, I 0] 25) :: [0, 3, 5].zip (BLe l t B V_2))) 4 (VV.agg [VV.tl t.T.length 1 (dG t.T), I (min (1000 : Int) (t.far + wh)), I t.least]) (VV.agg (tsL (farT t (min (1000 : Int) (t.far + wh))))) ∧ ∀ (n e : Int), n = chpC l (farT t (min (1000 : Int) (t.far + wh))) y m ∧ e = chpE l (farT t (min (1000 : Int) (t.far + wh))) y m → bif !decide (e = (0 : Int)) then
 Q (VRes.ret (VV.bool false))
 else bif decide (n > costF l c) then
 Q (VRes.ret (VV.bool false))
 else bif decide ((↑l.length : Int) = (0 : Int)) then
 Q (VRes.ret (VV.bool true))
 else bif inK IntKind.i64 wh then
 bif decide ((↑l.length : Int) = (0 : Int)) then
 False
 else bif roomB (0 + l.length) (56) then
 bif decide ((0 : Int) ≤ remZ wh (↑l.length : Int) ∧ remZ wh (↑l.length : Int) < (↑l.length : Int)) then
 bif inK IntKind.i64 ((l.getD (remZ wh (↑l.length : Int)).toNat k0).casks + (1 : Int)) then
 bif decide ((0 : Int) ≤ remZ wh (↑l.length : Int) ∧ remZ wh (↑l.length : Int) < (↑(0 + l.length) : Int)) then
 bif (0 + l.length).beq (0 + l.length) && Nat.ble 1 Try.prog.types[32].size then
 bif (0 + l.length).beq (0 + l.length) && [I (min (6 : Int) ((l.getD (remZ wh (↑l.length : Int)).toNat k0).casks + (1 : Int)))].all VV.one && belL 0 [I (min (6 : Int) ((l.getD (remZ wh (↑l.length : Int)).toNat k0).casks + (1 : Int)))] then
 ∃ (l' : List Stk), isD (VH.mk (8) ((7, VB.vec (0 + l.length) (atG (remZ wh (↑l.length : Int)).toNat (catG 0 (fun (j : Nat) => List.take (5) (List.drop (j * (5)) [])) (stG l)) (setL (catG 0 (fun (j : Nat) => List.take (5) (List.drop (j * (5)) [])) (stG l) (remZ wh (↑l.length : Int)).toNat) 0 [I (min (6 : Int) ((l.getD (remZ wh (↑l.length : Int)).toNat k0).casks + (1 : Int)))])) (5) 32) :: (7, VB.vec (0 + l.length) (catG 0 (fun (j : Nat) => List.take (5) (List.drop (j * (5)) [])) (stG l)) (5) 32) :: (7, VB.vec 0 (fun (j : Nat) => List.take (5) (List.drop (j * (5)) [])) (5) 32) :: (6, VB.cells [VV.tl t.T.length 1 (dG t.T), I (min (1000 : Int) (t.far + wh)), I t.least] 25) :: (6, VB.cells (tsL t) 25) :: (6, VB.cells [VV.nils, I 0, I 0] 25) :: [0, 3, 5].zip (BLe l t B V_2))) 4 (VV.sl (7) (0 + l.length)) (stD l') ∧ isD (VH.mk (8) ((7, VB.vec (0 + l.length) (atG (remZ wh (↑l.length : Int)).toNat (catG 0 (fun (j : Nat) => List.take (5) (List.drop (j * (5)) [])) (stG l)) (setL (catG 0 (fun (j : Nat) => List.take (5) (List.drop (j * (5)) [])) (stG l) (remZ wh (↑l.length : Int)).toNat) 0 [I (min (6 : Int) ((l.getD (remZ wh (↑l.length : Int)).toNat k0).casks + (1 : Int)))])) (5) 32) :: (7, VB.vec (0 + l.length) (catG 0 (fun (j : Nat) => List.take (5) (List.drop (j * (5)) [])) (stG l)) (5) 32) :: (7, VB.vec 0 (fun (j : Nat) => List.take (5) (List.drop (j * (5)) [])) (5) 32) :: (6, VB.cells [VV.tl t.T.length 1 (dG t.T), I (min (1000 : Int) (t.far + wh)), I t.least] 25) :: (6, VB.cells (tsL t) 25) :: (6, VB.cells [VV.nils, I 0, I 0] 25) :: [0, 3, 5].zip (BLe l t B V_2))) 4 (VV.agg (tsL t)) (VV.agg (tsL t)) ∧ ∀ (n e : Int), n = chpC l' t y m ∧ e = chpE l' t y m → bif decide (e = (0 : Int)) then
 bif decide (n ≤ costF l c) then
 Q (VRes.ret (VV.bool true))
 else Q (VRes.ret (VV.bool false))
 else Q (VRes.ret (VV.bool false))
 else False
 else False
 else False
 else False
 else False
 else False
 else False
 else False
 else False) := by kernel_rfl

theorem lyp_ev (l : List Stk) (t : Tst) (y m more : Int) (wh : Int) (B : List Int) (c : Nat → Int) (Q : VRes → Prop) : callN Try.prog (tabS [grK l t false, chK l t 0 (fun y m => chpF l t y m = some c) (rChp l c), rtY t, rsY l t, smB l B, blY l t, lmK l t false, alT]) noL 10 20 0 (.fn 8) [stD l, .agg (tsL t), I y, I m, I more, .int .u8 wh, byD B] ⟨0, []⟩ (fun r _ => Q r) =
  (isD (VH.mk (0 + 1) [(0, VB.cells (tsL t) 25)]) 4 (stD l) (stD l) ∧ isD (VH.mk (0 + 1) [(0, VB.cells (tsL t) 25)]) 4 (VV.agg (tsL t)) (VV.agg (tsL t)) ∧ greatF l t (1000 : Int) = false ∧ bif decide ((↑B.length : Int) = (0 : Int)) then
 Q (VRes.ret (VV.bool true))
 else stD l = stD l ∧ VV.agg (tsL t) = VV.agg (tsL t) ∧ (chpE l t y m = (0 : Int) ∧ chpF l t y m = some c) ∧ isD (VH.mk (0 + 1) [(0, VB.cells (tsL t) 25)]) 3 (VV.agg (tsL t)) (VV.agg (tsL t)) ∧ (t.T.length ≤ 100000 ∧ okT t = true) ∧ isD (VH.mk (0 + 1) [(0, VB.cells (tsL t) 25)]) 3 (stD l) (stD l) ∧ isD (VH.mk (0 + 1) [(0, VB.cells (tsL t) 25)]) 3 (VV.agg (tsL t)) (VV.agg (tsL t)) ∧ (l.length ≤ 100000 ∧ t.T.length ≤ 100000 ∧ (decide (l.length ≤ 6) && !anyS l t) = true) ∧ isD (VH.mk (0 + 1) [(0, VB.cells (tsL t) 25)]) 4 (stD l) (stD l) ∧ isD (VH.mk (0 + 1) [(0, VB.cells (tsL t) 25)]) 4 (VV.agg (tsL t)) (VV.agg (tsL t)) ∧ ∃ (D : List Int), isD (VH.mk (0 + 1) [(0, VB.cells (tsL t) 25)]) 4 (VV.tl l.length 1 (chG c)) (inD D) ∧ bldE l t y D = (0 : Int) ∧ ∀ (V : Vt), V = vtF l t (chD D) y → bif !decide ((↑l.length : Int) = (↑l.length : Int)) then
 Q (VRes.ret (VV.bool false))
 else bif !decide (V.c = costF l c) then
 Q (VRes.ret (VV.bool false))
 else isD (VH.mk (3) ((2, VB.cells [I V.v, I V.c, I V.a, VV.sl (VH.mk (0 + 1) [(0, VB.cells (tsL t) 25)]).nx V.P.length, VV.bool V.k] 49) :: (2, VB.cells [I 0, I 0, I 0, VV.nils, VV.bool false] 49) :: ((VH.mk (0 + 1) [(0, VB.cells (tsL t) 25)]).nx, vtB V) :: (VH.mk (0 + 1) [(0, VB.cells (tsL t) 25)]).bs)) 4 (stD l) (stD l) ∧ isD (VH.mk (3) ((2, VB.cells [I V.v, I V.c, I V.a, VV.sl (VH.mk (0 + 1) [(0, VB.cells (tsL t) 25)]).nx V.P.length, VV.bool V.k] 49) :: (2, VB.cells [I 0, I 0, I 0, VV.nils, VV.bool false] 49) :: ((VH.mk (0 + 1) [(0, VB.cells (tsL t) 25)]).nx, vtB V) :: (VH.mk (0 + 1) [(0, VB.cells (tsL t) 25)]).bs)) 4 (VV.agg (tsL t)) (VV.agg (tsL t)) ∧ ∃ (D : List Int), isD (VH.mk (3) ((2, VB.cells [I V.v, I V.c, I V.a, VV.sl (VH.mk (0 + 1) [(0, VB.cells (tsL t) 25)]).nx V.P.length, VV.bool V.k] 49) :: (2, VB.cells [I 0, I 0, I 0, VV.nils, VV.bool false] 49) :: ((VH.mk (0 + 1) [(0, VB.cells (tsL t) 25)]).nx, vtB V) :: (VH.mk (0 + 1) [(0, VB.cells (tsL t) 25)]).bs)) 4 (VV.tl l.length 1 (chG c)) (inD D) ∧ lmF l t y m D = true ∧ isD (VH.mk (3) ((2, VB.cells [I V.v, I V.c, I V.a, VV.sl (VH.mk (0 + 1) [(0, VB.cells (tsL t) 25)]).nx V.P.length, VV.bool V.k] 49) :: (2, VB.cells [I 0, I 0, I 0, VV.nils, VV.bool false] 49) :: ((VH.mk (0 + 1) [(0, VB.cells (tsL t) 25)]).nx, vtB V) :: (VH.mk (0 + 1) [(0, VB.cells (tsL t) 25)]).bs)) 3 (stD l) (stD l) ∧ isD (VH.mk (3) ((2, VB.cells [I V.v, I V.c, I V.a, VV.sl (VH.mk (0 + 1) [(0, VB.cells (tsL t) 25)]).nx V.P.length, VV.bool V.k] 49) :: (2, VB.cells [I 0, I 0, I 0, VV.nils, VV.bool false] 49) :: ((VH.mk (0 + 1) [(0, VB.cells (tsL t) 25)]).nx, vtB V) :: (VH.mk (0 + 1) [(0, VB.cells (tsL t) 25)]).bs)) 3 (byD B) (byD B) ∧ (lB l ∧ u8B B) ∧ isD ((VH.mk (3) ((2, VB.cells [I V.v, I V.c, I V.a, VV.sl (VH.mk (0 + 1) [(0, VB.cells (tsL t) 25)]).nx V.P.length, VV.bool V.k] 49) :: (2, VB.cells [I 0, I 0, I 0, VV.nils, VV.bool false] 49) :: ((VH.mk (0 + 1) [(0, VB.cells (tsL t) 25)]).nx, vtB V) :: (VH.mk (0 + 1) [(0, VB.cells (tsL t) 25)]).bs)).new (VB.vec l.length (chG (someF l B)) 1 (3 : TypeId))) 4 (stD l) (stD l) ∧ isD ((VH.mk (3) ((2, VB.cells [I V.v, I V.c, I V.a, VV.sl (VH.mk (0 + 1) [(0, VB.cells (tsL t) 25)]).nx V.P.length, VV.bool V.k] 49) :: (2, VB.cells [I 0, I 0, I 0, VV.nils, VV.bool false] 49) :: ((VH.mk (0 + 1) [(0, VB.cells (tsL t) 25)]).nx, vtB V) :: (VH.mk (0 + 1) [(0, VB.cells (tsL t) 25)]).bs)).new (VB.vec l.length (chG (someF l B)) 1 (3 : TypeId))) 4 (VV.agg (tsL t)) (VV.agg (tsL t)) ∧ ∃ (D : List Int), isD ((VH.mk (3) ((2, VB.cells [I V.v, I V.c, I V.a, VV.sl (VH.mk (0 + 1) [(0, VB.cells (tsL t) 25)]).nx V.P.length, VV.bool V.k] 49) :: (2, VB.cells [I 0, I 0, I 0, VV.nils, VV.bool false] 49) :: ((VH.mk (0 + 1) [(0, VB.cells (tsL t) 25)]).nx, vtB V) :: (VH.mk (0 + 1) [(0, VB.cells (tsL t) 25)]).bs)).new (VB.vec l.length (chG (someF l B)) 1 (3 : TypeId))) 4 (VV.sl (VH.mk (3) ((2, VB.cells [I V.v, I V.c, I V.a, VV.sl (VH.mk (0 + 1) [(0, VB.cells (tsL t) 25)]).nx V.P.length, VV.bool V.k] 49) :: (2, VB.cells [I 0, I 0, I 0, VV.nils, VV.bool false] 49) :: ((VH.mk (0 + 1) [(0, VB.cells (tsL t) 25)]).nx, vtB V) :: (VH.mk (0 + 1) [(0, VB.cells (tsL t) 25)]).bs)).nx l.length) (inD D) ∧ lmF l t y m D = false ∧ bif decide (more ≥ m) then
 bif decide (more ≤ (1048576 : Int)) then
 isD ((VH.mk (3) ((2, VB.cells [I V.v, I V.c, I V.a, VV.sl (VH.mk (0 + 1) [(0, VB.cells (tsL t) 25)]).nx V.P.length, VV.bool V.k] 49) :: (2, VB.cells [I 0, I 0, I 0, VV.nils, VV.bool false] 49) :: ((VH.mk (0 + 1) [(0, VB.cells (tsL t) 25)]).nx, vtB V) :: (VH.mk (0 + 1) [(0, VB.cells (tsL t) 25)]).bs)).new (VB.vec l.length (chG (someF l B)) 1 (3 : TypeId))) 4 (stD l) (stD l) ∧ isD ((VH.mk (3) ((2, VB.cells [I V.v, I V.c, I V.a, VV.sl (VH.mk (0 + 1) [(0, VB.cells (tsL t) 25)]).nx V.P.length, VV.bool V.k] 49) :: (2, VB.cells [I 0, I 0, I 0, VV.nils, VV.bool false] 49) :: ((VH.mk (0 + 1) [(0, VB.cells (tsL t) 25)]).nx, vtB V) :: (VH.mk (0 + 1) [(0, VB.cells (tsL t) 25)]).bs)).new (VB.vec l.length (chG (someF l B)) 1 (3 : TypeId))) 4 (VV.agg (tsL t)) (VV.agg (tsL (farT t t.far))) ∧ ∀ (n e : Int), n = chpC l (farT t t.far) y more ∧ e = chpE l (farT t t.far) y more → bif decide (e = (0 : Int)) then
 bif decide (n < costF l c) then
 bif decide (m > (0 : Int)) then
 Q (VRes.ret (VV.bool false))
 else bif inK IntKind.i64 wh then
 bif inK IntKind.i64 (t.far + wh) then
 isD (VH.mk (5) ((4, VB.cells [VV.tl t.T.length 1 (dG t.T), I (min (1000 : Int) (t.far + wh)), I t.least] 25) :: (4, VB.cells (tsL t) 25) :: (4, VB.cells [VV.nils, I 0, I 0] 25) :: ((VH.mk (3) ((2, VB.cells [I V.v, I V.c, I V.a, VV.sl (VH.mk (0 + 1) [(0, VB.cells (tsL t) 25)]).nx V.P.length, VV.bool V.k] 49) :: (2, VB.cells [I 0, I 0, I 0, VV.nils, VV.bool false] 49) :: ((VH.mk (0 + 1) [(0, VB.cells (tsL t) 25)]).nx, vtB V) :: (VH.mk (0 + 1) [(0, VB.cells (tsL t) 25)]).bs)).nx, VB.vec l.length (chG (someF l B)) 1 (3 : TypeId)) :: (VH.mk (3) ((2, VB.cells [I V.v, I V.c, I V.a, VV.sl (VH.mk (0 + 1) [(0, VB.cells (tsL t) 25)]).nx V.P.length, VV.bool V.k] 49) :: (2, VB.cells [I 0, I 0, I 0, VV.nils, VV.bool false] 49) :: ((VH.mk (0 + 1) [(0, VB.cells (tsL t) 25)]).nx, vtB V) :: (VH.mk (0 + 1) [(0, VB.cells (tsL t) 25)]).bs)).bs)) 4 (stD l) (stD l) ∧ isD (VH.mk (5) ((4, VB.cells [VV.tl t.T.length 1 (dG t.T), I (min (1000 : Int) (t.far + wh)), I t.least] 25) :: (4, VB.cells (tsL t) 25) :: (4, VB.cells [VV.nils, I 0, I 0] 25) :: ((VH.mk (3) ((2, VB.cells [I V.v, I V.c, I V.a, VV.sl (VH.mk (0 + 1) [(0, VB.cells (tsL t) 25)]).nx V.P.length, VV.bool V.k] 49) :: (2, VB.cells [I 0, I 0, I 0, VV.nils, VV.bool false] 49) :: ((VH.mk (0 + 1) [(0, VB.cells (tsL t) 25)]).nx, vtB V) :: (VH.mk (0 + 1) [(0, VB.cells (tsL t) 25)]).bs)).nx, VB.vec l.length (chG (someF l B)) 1 (3 : TypeId)) :: (VH.mk (3) ((2, VB.cells [I V.v, I V.c, I V.a, VV.sl (VH.mk (0 + 1) [(0, VB.cells (tsL t) 25)]).nx V.P.length, VV.bool V.k] 49) :: (2, VB.cells [I 0, I 0, I 0, VV.nils, VV.bool false] 49) :: ((VH.mk (0 + 1) [(0, VB.cells (tsL t) 25)]).nx, vtB V) :: (VH.mk (0 + 1) [(0, VB.cells (tsL t) 25)]).bs)).bs)) 4 (VV.agg [VV.tl t.T.length 1 (dG t.T), I (min (1000 : Int) (t.far + wh)), I t.least]) (VV.agg (tsL (farT t (min (1000 : Int) (t.far + wh))))) ∧ ∀ (n e : Int), n = chpC l (farT t (min (1000 : Int) (t.far + wh))) y m ∧ e = chpE l (farT t (min (1000 : Int) (t.far + wh))) y m → bif !decide (e = (0 : Int)) then
 Q (VRes.ret (VV.bool false))
 else bif decide (n > costF l c) then
 Q (VRes.ret (VV.bool false))
 else bif decide ((↑l.length : Int) = (0 : Int)) then
 Q (VRes.ret (VV.bool true))
 else bif inK IntKind.i64 wh then
 bif decide ((↑l.length : Int) = (0 : Int)) then
 False
 else bif roomB (0 + l.length) (56) then
 bif decide ((0 : Int) ≤ remZ wh (↑l.length : Int) ∧ remZ wh (↑l.length : Int) < (↑l.length : Int)) then
 bif inK IntKind.i64 ((l.getD (remZ wh (↑l.length : Int)).toNat k0).casks + (1 : Int)) then
 bif decide ((0 : Int) ≤ remZ wh (↑l.length : Int) ∧ remZ wh (↑l.length : Int) < (↑(0 + l.length) : Int)) then
 bif (0 + l.length).beq (0 + l.length) && Nat.ble 1 Try.prog.types[32].size then
 bif (0 + l.length).beq (0 + l.length) && [I (min (6 : Int) ((l.getD (remZ wh (↑l.length : Int)).toNat k0).casks + (1 : Int)))].all VV.one && belL 0 [I (min (6 : Int) ((l.getD (remZ wh (↑l.length : Int)).toNat k0).casks + (1 : Int)))] then
 ∃ (l' : List Stk), isD (VH.mk (6) ((5, VB.vec (0 + l.length) (atG (remZ wh (↑l.length : Int)).toNat (catG 0 (fun (j : Nat) => List.take (5) (List.drop (j * (5)) [])) (stG l)) (setL (catG 0 (fun (j : Nat) => List.take (5) (List.drop (j * (5)) [])) (stG l) (remZ wh (↑l.length : Int)).toNat) 0 [I (min (6 : Int) ((l.getD (remZ wh (↑l.length : Int)).toNat k0).casks + (1 : Int)))])) (5) 32) :: (5, VB.vec (0 + l.length) (catG 0 (fun (j : Nat) => List.take (5) (List.drop (j * (5)) [])) (stG l)) (5) 32) :: (5, VB.vec 0 (fun (j : Nat) => List.take (5) (List.drop (j * (5)) [])) (5) 32) :: (4, VB.cells [VV.tl t.T.length 1 (dG t.T), I (min (1000 : Int) (t.far + wh)), I t.least] 25) :: (4, VB.cells (tsL t) 25) :: (4, VB.cells [VV.nils, I 0, I 0] 25) :: ((VH.mk (3) ((2, VB.cells [I V.v, I V.c, I V.a, VV.sl (VH.mk (0 + 1) [(0, VB.cells (tsL t) 25)]).nx V.P.length, VV.bool V.k] 49) :: (2, VB.cells [I 0, I 0, I 0, VV.nils, VV.bool false] 49) :: ((VH.mk (0 + 1) [(0, VB.cells (tsL t) 25)]).nx, vtB V) :: (VH.mk (0 + 1) [(0, VB.cells (tsL t) 25)]).bs)).nx, VB.vec l.length (chG (someF l B)) 1 (3 : TypeId)) :: (VH.mk (3) ((2, VB.cells [I V.v, I V.c, I V.a, VV.sl (VH.mk (0 + 1) [(0, VB.cells (tsL t) 25)]).nx V.P.length, VV.bool V.k] 49) :: (2, VB.cells [I 0, I 0, I 0, VV.nils, VV.bool false] 49) :: ((VH.mk (0 + 1) [(0, VB.cells (tsL t) 25)]).nx, vtB V) :: (VH.mk (0 + 1) [(0, VB.cells (tsL t) 25)]).bs)).bs)) 4 (VV.sl (5) (0 + l.length)) (stD l') ∧ isD (VH.mk (6) ((5, VB.vec (0 + l.length) (atG (remZ wh (↑l.length : Int)).toNat (catG 0 (fun (j : Nat) => List.take (5) (List.drop (j * (5)) [])) (stG l)) (setL (catG 0 (fun (j : Nat) => List.take (5) (List.drop (j * (5)) [])) (stG l) (remZ wh (↑l.length : Int)).toNat) 0 [I (min (6 : Int) ((l.getD (remZ wh (↑l.length : Int)).toNat k0).casks + (1 : Int)))])) (5) 32) :: (5, VB.vec (0 + l.length) (catG 0 (fun (j : Nat) => List.take (5) (List.drop (j * (5)) [])) (stG l)) (5) 32) :: (5, VB.vec 0 (fun (j : Nat) => List.take (5) (List.drop (j * (5)) [])) (5) 32) :: (4, VB.cells [VV.tl t.T.length 1 (dG t.T), I (min (1000 : Int) (t.far + wh)), I t.least] 25) :: (4, VB.cells (tsL t) 25) :: (4, VB.cells [VV.nils, I 0, I 0] 25) :: ((VH.mk (3) ((2, VB.cells [I V.v, I V.c, I V.a, VV.sl (VH.mk (0 + 1) [(0, VB.cells (tsL t) 25)]).nx V.P.length, VV.bool V.k] 49) :: (2, VB.cells [I 0, I 0, I 0, VV.nils, VV.bool false] 49) :: ((VH.mk (0 + 1) [(0, VB.cells (tsL t) 25)]).nx, vtB V) :: (VH.mk (0 + 1) [(0, VB.cells (tsL t) 25)]).bs)).nx, VB.vec l.length (chG (someF l B)) 1 (3 : TypeId)) :: (VH.mk (3) ((2, VB.cells [I V.v, I V.c, I V.a, VV.sl (VH.mk (0 + 1) [(0, VB.cells (tsL t) 25)]).nx V.P.length, VV.bool V.k] 49) :: (2, VB.cells [I 0, I 0, I 0, VV.nils, VV.bool false] 49) :: ((VH.mk (0 + 1) [(0, VB.cells (tsL t) 25)]).nx, vtB V) :: (VH.mk (0 + 1) [(0, VB.cells (tsL t) 25)]).bs)).bs)) 4 (VV.agg (tsL t)) (VV.agg (tsL t)) ∧ ∀ (n e : Int), n = chpC l' t y m ∧ e = chpE l' t y m → bif decide (e = (0 : Int)) then
 bif decide (n ≤ costF l c) then
 Q (VRes.ret (VV.bool true))
 else Q (VRes.ret (VV.bool false))
 else Q (VRes.ret (VV.bool false))
 else False
 else False
 else False
 else False
 else False
 else False
 else False
 else False
 else False
 else bif inK IntKind.i64 wh then
 bif inK IntKind.i64 (t.far + wh) then
 isD (VH.mk (5) ((4, VB.cells [VV.tl t.T.length 1 (dG t.T), I (min (1000 : Int) (t.far + wh)), I t.least] 25) :: (4, VB.cells (tsL t) 25) :: (4, VB.cells [VV.nils, I 0, I 0] 25) :: ((VH.mk (3) ((2, VB.cells [I V.v, I V.c, I V.a, VV.sl (VH.mk (0 + 1) [(0, VB.cells (tsL t) 25)]).nx V.P.length, VV.bool V.k] 49) :: (2, VB.cells [I 0, I 0, I 0, VV.nils, VV.bool false] 49) :: ((VH.mk (0 + 1) [(0, VB.cells (tsL t) 25)]).nx, vtB V) :: (VH.mk (0 + 1) [(0, VB.cells (tsL t) 25)]).bs)).nx, VB.vec l.length (chG (someF l B)) 1 (3 : TypeId)) :: (VH.mk (3) ((2, VB.cells [I V.v, I V.c, I V.a, VV.sl (VH.mk (0 + 1) [(0, VB.cells (tsL t) 25)]).nx V.P.length, VV.bool V.k] 49) :: (2, VB.cells [I 0, I 0, I 0, VV.nils, VV.bool false] 49) :: ((VH.mk (0 + 1) [(0, VB.cells (tsL t) 25)]).nx, vtB V) :: (VH.mk (0 + 1) [(0, VB.cells (tsL t) 25)]).bs)).bs)) 4 (stD l) (stD l) ∧ isD (VH.mk (5) ((4, VB.cells [VV.tl t.T.length 1 (dG t.T), I (min (1000 : Int) (t.far + wh)), I t.least] 25) :: (4, VB.cells (tsL t) 25) :: (4, VB.cells [VV.nils, I 0, I 0] 25) :: ((VH.mk (3) ((2, VB.cells [I V.v, I V.c, I V.a, VV.sl (VH.mk (0 + 1) [(0, VB.cells (tsL t) 25)]).nx V.P.length, VV.bool V.k] 49) :: (2, VB.cells [I 0, I 0, I 0, VV.nils, VV.bool false] 49) :: ((VH.mk (0 + 1) [(0, VB.cells (tsL t) 25)]).nx, vtB V) :: (VH.mk (0 + 1) [(0, VB.cells (tsL t) 25)]).bs)).nx, VB.vec l.length (chG (someF l B)) 1 (3 : TypeId)) :: (VH.mk (3) ((2, VB.cells [I V.v, I V.c, I V.a, VV.sl (VH.mk (0 + 1) [(0, VB.cells (tsL t) 25)]).nx V.P.length, VV.bool V.k] 49) :: (2, VB.cells [I 0, I 0, I 0, VV.nils, VV.bool false] 49) :: ((VH.mk (0 + 1) [(0, VB.cells (tsL t) 25)]).nx, vtB V) :: (VH.mk (0 + 1) [(0, VB.cells (tsL t) 25)]).bs)).bs)) 4 (VV.agg [VV.tl t.T.length 1 (dG t.T), I (min (1000 : Int) (t.far + wh)), I t.least]) (VV.agg (tsL (farT t (min (1000 : Int) (t.far + wh))))) ∧ ∀ (n e : Int), n = chpC l (farT t (min (1000 : Int) (t.far + wh))) y m ∧ e = chpE l (farT t (min (1000 : Int) (t.far + wh))) y m → bif !decide (e = (0 : Int)) then
 Q (VRes.ret (VV.bool false))
 else bif decide (n > costF l c) then
 Q (VRes.ret (VV.bool false))
 else bif decide ((↑l.length : Int) = (0 : Int)) then
 Q (VRes.ret (VV.bool true))
 else bif inK IntKind.i64 wh then
 bif decide ((↑l.length : Int) = (0 : Int)) then
 False
 else bif roomB (0 + l.length) (56) then
 bif decide ((0 : Int) ≤ remZ wh (↑l.length : Int) ∧ remZ wh (↑l.length : Int) < (↑l.length : Int)) then
 bif inK IntKind.i64 ((l.getD (remZ wh (↑l.length : Int)).toNat k0).casks + (1 : Int)) then
 bif decide ((0 : Int) ≤ remZ wh (↑l.length : Int) ∧ remZ wh (↑l.length : Int) < (↑(0 + l.length) : Int)) then
 bif (0 + l.length).beq (0 + l.length) && Nat.ble 1 Try.prog.types[32].size then
 bif (0 + l.length).beq (0 + l.length) && [I (min (6 : Int) ((l.getD (remZ wh (↑l.length : Int)).toNat k0).casks + (1 : Int)))].all VV.one && belL 0 [I (min (6 : Int) ((l.getD (remZ wh (↑l.length : Int)).toNat k0).casks + (1 : Int)))] then
 ∃ (l' : List Stk), isD (VH.mk (6) ((5, VB.vec (0 + l.length) (atG (remZ wh (↑l.length : Int)).toNat (catG 0 (fun (j : Nat) => List.take (5) (List.drop (j * (5)) [])) (stG l)) (setL (catG 0 (fun (j : Nat) => List.take (5) (List.drop (j * (5)) [])) (stG l) (remZ wh (↑l.length : Int)).toNat) 0 [I (min (6 : Int) ((l.getD (remZ wh (↑l.length : Int)).toNat k0).casks + (1 : Int)))])) (5) 32) :: (5, VB.vec (0 + l.length) (catG 0 (fun (j : Nat) => List.take (5) (List.drop (j * (5)) [])) (stG l)) (5) 32) :: (5, VB.vec 0 (fun (j : Nat) => List.take (5) (List.drop (j * (5)) [])) (5) 32) :: (4, VB.cells [VV.tl t.T.length 1 (dG t.T), I (min (1000 : Int) (t.far + wh)), I t.least] 25) :: (4, VB.cells (tsL t) 25) :: (4, VB.cells [VV.nils, I 0, I 0] 25) :: ((VH.mk (3) ((2, VB.cells [I V.v, I V.c, I V.a, VV.sl (VH.mk (0 + 1) [(0, VB.cells (tsL t) 25)]).nx V.P.length, VV.bool V.k] 49) :: (2, VB.cells [I 0, I 0, I 0, VV.nils, VV.bool false] 49) :: ((VH.mk (0 + 1) [(0, VB.cells (tsL t) 25)]).nx, vtB V) :: (VH.mk (0 + 1) [(0, VB.cells (tsL t) 25)]).bs)).nx, VB.vec l.length (chG (someF l B)) 1 (3 : TypeId)) :: (VH.mk (3) ((2, VB.cells [I V.v, I V.c, I V.a, VV.sl (VH.mk (0 + 1) [(0, VB.cells (tsL t) 25)]).nx V.P.length, VV.bool V.k] 49) :: (2, VB.cells [I 0, I 0, I 0, VV.nils, VV.bool false] 49) :: ((VH.mk (0 + 1) [(0, VB.cells (tsL t) 25)]).nx, vtB V) :: (VH.mk (0 + 1) [(0, VB.cells (tsL t) 25)]).bs)).bs)) 4 (VV.sl (5) (0 + l.length)) (stD l') ∧ isD (VH.mk (6) ((5, VB.vec (0 + l.length) (atG (remZ wh (↑l.length : Int)).toNat (catG 0 (fun (j : Nat) => List.take (5) (List.drop (j * (5)) [])) (stG l)) (setL (catG 0 (fun (j : Nat) => List.take (5) (List.drop (j * (5)) [])) (stG l) (remZ wh (↑l.length : Int)).toNat) 0 [I (min (6 : Int) ((l.getD (remZ wh (↑l.length : Int)).toNat k0).casks + (1 : Int)))])) (5) 32) :: (5, VB.vec (0 + l.length) (catG 0 (fun (j : Nat) => List.take (5) (List.drop (j * (5)) [])) (stG l)) (5) 32) :: (5, VB.vec 0 (fun (j : Nat) => List.take (5) (List.drop (j * (5)) [])) (5) 32) :: (4, VB.cells [VV.tl t.T.length 1 (dG t.T), I (min (1000 : Int) (t.far + wh)), I t.least] 25) :: (4, VB.cells (tsL t) 25) :: (4, VB.cells [VV.nils, I 0, I 0] 25) :: ((VH.mk (3) ((2, VB.cells [I V.v, I V.c, I V.a, VV.sl (VH.mk (0 + 1) [(0, VB.cells (tsL t) 25)]).nx V.P.length, VV.bool V.k] 49) :: (2, VB.cells [I 0, I 0, I 0, VV.nils, VV.bool false] 49) :: ((VH.mk (0 + 1) [(0, VB.cells (tsL t) 25)]).nx, vtB V) :: (VH.mk (0 + 1) [(0, VB.cells (tsL t) 25)]).bs)).nx, VB.vec l.length (chG (someF l B)) 1 (3 : TypeId)) :: (VH.mk (3) ((2, VB.cells [I V.v, I V.c, I V.a, VV.sl (VH.mk (0 + 1) [(0, VB.cells (tsL t) 25)]).nx V.P.length, VV.bool V.k] 49) :: (2, VB.cells [I 0, I 0, I 0, VV.nils, VV.bool false] 49) :: ((VH.mk (0 + 1) [(0, VB.cells (tsL t) 25)]).nx, vtB V) :: (VH.mk (0 + 1) [(0, VB.cells (tsL t) 25)]).bs)).bs)) 4 (VV.agg (tsL t)) (VV.agg (tsL t)) ∧ ∀ (n e : Int), n = chpC l' t y m ∧ e = chpE l' t y m → bif decide (e = (0 : Int)) then
 bif decide (n ≤ costF l c) then
 Q (VRes.ret (VV.bool true))
 else Q (VRes.ret (VV.bool false))
 else Q (VRes.ret (VV.bool false))
 else False
 else False
 else False
 else False
 else False
 else False
 else False
 else False
 else False
 else bif inK IntKind.i64 wh then
 bif inK IntKind.i64 (t.far + wh) then
 isD (VH.mk (5) ((4, VB.cells [VV.tl t.T.length 1 (dG t.T), I (min (1000 : Int) (t.far + wh)), I t.least] 25) :: (4, VB.cells (tsL t) 25) :: (4, VB.cells [VV.nils, I 0, I 0] 25) :: ((VH.mk (3) ((2, VB.cells [I V.v, I V.c, I V.a, VV.sl (VH.mk (0 + 1) [(0, VB.cells (tsL t) 25)]).nx V.P.length, VV.bool V.k] 49) :: (2, VB.cells [I 0, I 0, I 0, VV.nils, VV.bool false] 49) :: ((VH.mk (0 + 1) [(0, VB.cells (tsL t) 25)]).nx, vtB V) :: (VH.mk (0 + 1) [(0, VB.cells (tsL t) 25)]).bs)).nx, VB.vec l.length (chG (someF l B)) 1 (3 : TypeId)) :: (VH.mk (3) ((2, VB.cells [I V.v, I V.c, I V.a, VV.sl (VH.mk (0 + 1) [(0, VB.cells (tsL t) 25)]).nx V.P.length, VV.bool V.k] 49) :: (2, VB.cells [I 0, I 0, I 0, VV.nils, VV.bool false] 49) :: ((VH.mk (0 + 1) [(0, VB.cells (tsL t) 25)]).nx, vtB V) :: (VH.mk (0 + 1) [(0, VB.cells (tsL t) 25)]).bs)).bs)) 4 (stD l) (stD l) ∧ isD (VH.mk (5) ((4, VB.cells [VV.tl t.T.length 1 (dG t.T), I (min (1000 : Int) (t.far + wh)), I t.least] 25) :: (4, VB.cells (tsL t) 25) :: (4, VB.cells [VV.nils, I 0, I 0] 25) :: ((VH.mk (3) ((2, VB.cells [I V.v, I V.c, I V.a, VV.sl (VH.mk (0 + 1) [(0, VB.cells (tsL t) 25)]).nx V.P.length, VV.bool V.k] 49) :: (2, VB.cells [I 0, I 0, I 0, VV.nils, VV.bool false] 49) :: ((VH.mk (0 + 1) [(0, VB.cells (tsL t) 25)]).nx, vtB V) :: (VH.mk (0 + 1) [(0, VB.cells (tsL t) 25)]).bs)).nx, VB.vec l.length (chG (someF l B)) 1 (3 : TypeId)) :: (VH.mk (3) ((2, VB.cells [I V.v, I V.c, I V.a, VV.sl (VH.mk (0 + 1) [(0, VB.cells (tsL t) 25)]).nx V.P.length, VV.bool V.k] 49) :: (2, VB.cells [I 0, I 0, I 0, VV.nils, VV.bool false] 49) :: ((VH.mk (0 + 1) [(0, VB.cells (tsL t) 25)]).nx, vtB V) :: (VH.mk (0 + 1) [(0, VB.cells (tsL t) 25)]).bs)).bs)) 4 (VV.agg [VV.tl t.T.length 1 (dG t.T), I (min (1000 : Int) (t.far + wh)), I t.least]) (VV.agg (tsL (farT t (min (1000 : Int) (t.far + wh))))) ∧ ∀ (n e : Int), n = chpC l (farT t (min (1000 : Int) (t.far + wh))) y m ∧ e = chpE l (farT t (min (1000 : Int) (t.far + wh))) y m → bif !decide (e = (0 : Int)) then
 Q (VRes.ret (VV.bool false))
 else bif decide (n > costF l c) then
 Q (VRes.ret (VV.bool false))
 else bif decide ((↑l.length : Int) = (0 : Int)) then
 Q (VRes.ret (VV.bool true))
 else bif inK IntKind.i64 wh then
 bif decide ((↑l.length : Int) = (0 : Int)) then
 False
 else bif roomB (0 + l.length) (56) then
 bif decide ((0 : Int) ≤ remZ wh (↑l.length : Int) ∧ remZ wh (↑l.length : Int) < (↑l.length : Int)) then
 bif inK IntKind.i64 ((l.getD (remZ wh (↑l.length : Int)).toNat k0).casks + (1 : Int)) then
 bif decide ((0 : Int) ≤ remZ wh (↑l.length : Int) ∧ remZ wh (↑l.length : Int) < (↑(0 + l.length) : Int)) then
 bif (0 + l.length).beq (0 + l.length) && Nat.ble 1 Try.prog.types[32].size then
 bif (0 + l.length).beq (0 + l.length) && [I (min (6 : Int) ((l.getD (remZ wh (↑l.length : Int)).toNat k0).casks + (1 : Int)))].all VV.one && belL 0 [I (min (6 : Int) ((l.getD (remZ wh (↑l.length : Int)).toNat k0).casks + (1 : Int)))] then
 ∃ (l' : List Stk), isD (VH.mk (6) ((5, VB.vec (0 + l.length) (atG (remZ wh (↑l.length : Int)).toNat (catG 0 (fun (j : Nat) => List.take (5) (List.drop (j * (5)) [])) (stG l)) (setL (catG 0 (fun (j : Nat) => List.take (5) (List.drop (j * (5)) [])) (stG l) (remZ wh (↑l.length : Int)).toNat) 0 [I (min (6 : Int) ((l.getD (remZ wh (↑l.length : Int)).toNat k0).casks + (1 : Int)))])) (5) 32) :: (5, VB.vec (0 + l.length) (catG 0 (fun (j : Nat) => List.take (5) (List.drop (j * (5)) [])) (stG l)) (5) 32) :: (5, VB.vec 0 (fun (j : Nat) => List.take (5) (List.drop (j * (5)) [])) (5) 32) :: (4, VB.cells [VV.tl t.T.length 1 (dG t.T), I (min (1000 : Int) (t.far + wh)), I t.least] 25) :: (4, VB.cells (tsL t) 25) :: (4, VB.cells [VV.nils, I 0, I 0] 25) :: ((VH.mk (3) ((2, VB.cells [I V.v, I V.c, I V.a, VV.sl (VH.mk (0 + 1) [(0, VB.cells (tsL t) 25)]).nx V.P.length, VV.bool V.k] 49) :: (2, VB.cells [I 0, I 0, I 0, VV.nils, VV.bool false] 49) :: ((VH.mk (0 + 1) [(0, VB.cells (tsL t) 25)]).nx, vtB V) :: (VH.mk (0 + 1) [(0, VB.cells (tsL t) 25)]).bs)).nx, VB.vec l.length (chG (someF l B)) 1 (3 : TypeId)) :: (VH.mk (3) ((2, VB.cells [I V.v, I V.c, I V.a, VV.sl (VH.mk (0 + 1) [(0, VB.cells (tsL t) 25)]).nx V.P.length, VV.bool V.k] 49) :: (2, VB.cells [I 0, I 0, I 0, VV.nils, VV.bool false] 49) :: ((VH.mk (0 + 1) [(0, VB.cells (tsL t) 25)]).nx, vtB V) :: (VH.mk (0 + 1) [(0, VB.cells (tsL t) 25)]).bs)).bs)) 4 (VV.sl (5) (0 + l.length)) (stD l') ∧ isD (VH.mk (6) ((5, VB.vec (0 + l.length) (atG (remZ wh (↑l.length : Int)).toNat (catG 0 (fun (j : Nat) => List.take (5) (List.drop (j * (5)) [])) (stG l)) (setL (catG 0 (fun (j : Nat) => List.take (5) (List.drop (j * (5)) [])) (stG l) (remZ wh (↑l.length : Int)).toNat) 0 [I (min (6 : Int) ((l.getD (remZ wh (↑l.length : Int)).toNat k0).casks + (1 : Int)))])) (5) 32) :: (5, VB.vec (0 + l.length) (catG 0 (fun (j : Nat) => List.take (5) (List.drop (j * (5)) [])) (stG l)) (5) 32) :: (5, VB.vec 0 (fun (j : Nat) => List.take (5) (List.drop (j * (5)) [])) (5) 32) :: (4, VB.cells [VV.tl t.T.length 1 (dG t.T), I (min (1000 : Int) (t.far + wh)), I t.least] 25) :: (4, VB.cells (tsL t) 25) :: (4, VB.cells [VV.nils, I 0, I 0] 25) :: ((VH.mk (3) ((2, VB.cells [I V.v, I V.c, I V.a, VV.sl (VH.mk (0 + 1) [(0, VB.cells (tsL t) 25)]).nx V.P.length, VV.bool V.k] 49) :: (2, VB.cells [I 0, I 0, I 0, VV.nils, VV.bool false] 49) :: ((VH.mk (0 + 1) [(0, VB.cells (tsL t) 25)]).nx, vtB V) :: (VH.mk (0 + 1) [(0, VB.cells (tsL t) 25)]).bs)).nx, VB.vec l.length (chG (someF l B)) 1 (3 : TypeId)) :: (VH.mk (3) ((2, VB.cells [I V.v, I V.c, I V.a, VV.sl (VH.mk (0 + 1) [(0, VB.cells (tsL t) 25)]).nx V.P.length, VV.bool V.k] 49) :: (2, VB.cells [I 0, I 0, I 0, VV.nils, VV.bool false] 49) :: ((VH.mk (0 + 1) [(0, VB.cells (tsL t) 25)]).nx, vtB V) :: (VH.mk (0 + 1) [(0, VB.cells (tsL t) 25)]).bs)).bs)) 4 (VV.agg (tsL t)) (VV.agg (tsL t)) ∧ ∀ (n e : Int), n = chpC l' t y m ∧ e = chpE l' t y m → bif decide (e = (0 : Int)) then
 bif decide (n ≤ costF l c) then
 Q (VRes.ret (VV.bool true))
 else Q (VRes.ret (VV.bool false))
 else Q (VRes.ret (VV.bool false))
 else False
 else False
 else False
 else False
 else False
 else False
 else False
 else False
 else False
 else bif inK IntKind.i64 wh then
 bif inK IntKind.i64 (t.far + wh) then
 isD (VH.mk (5) ((4, VB.cells [VV.tl t.T.length 1 (dG t.T), I (min (1000 : Int) (t.far + wh)), I t.least] 25) :: (4, VB.cells (tsL t) 25) :: (4, VB.cells [VV.nils, I 0, I 0] 25) :: ((VH.mk (3) ((2, VB.cells [I V.v, I V.c, I V.a, VV.sl (VH.mk (0 + 1) [(0, VB.cells (tsL t) 25)]).nx V.P.length, VV.bool V.k] 49) :: (2, VB.cells [I 0, I 0, I 0, VV.nils, VV.bool false] 49) :: ((VH.mk (0 + 1) [(0, VB.cells (tsL t) 25)]).nx, vtB V) :: (VH.mk (0 + 1) [(0, VB.cells (tsL t) 25)]).bs)).nx, VB.vec l.length (chG (someF l B)) 1 (3 : TypeId)) :: (VH.mk (3) ((2, VB.cells [I V.v, I V.c, I V.a, VV.sl (VH.mk (0 + 1) [(0, VB.cells (tsL t) 25)]).nx V.P.length, VV.bool V.k] 49) :: (2, VB.cells [I 0, I 0, I 0, VV.nils, VV.bool false] 49) :: ((VH.mk (0 + 1) [(0, VB.cells (tsL t) 25)]).nx, vtB V) :: (VH.mk (0 + 1) [(0, VB.cells (tsL t) 25)]).bs)).bs)) 4 (stD l) (stD l) ∧ isD (VH.mk (5) ((4, VB.cells [VV.tl t.T.length 1 (dG t.T), I (min (1000 : Int) (t.far + wh)), I t.least] 25) :: (4, VB.cells (tsL t) 25) :: (4, VB.cells [VV.nils, I 0, I 0] 25) :: ((VH.mk (3) ((2, VB.cells [I V.v, I V.c, I V.a, VV.sl (VH.mk (0 + 1) [(0, VB.cells (tsL t) 25)]).nx V.P.length, VV.bool V.k] 49) :: (2, VB.cells [I 0, I 0, I 0, VV.nils, VV.bool false] 49) :: ((VH.mk (0 + 1) [(0, VB.cells (tsL t) 25)]).nx, vtB V) :: (VH.mk (0 + 1) [(0, VB.cells (tsL t) 25)]).bs)).nx, VB.vec l.length (chG (someF l B)) 1 (3 : TypeId)) :: (VH.mk (3) ((2, VB.cells [I V.v, I V.c, I V.a, VV.sl (VH.mk (0 + 1) [(0, VB.cells (tsL t) 25)]).nx V.P.length, VV.bool V.k] 49) :: (2, VB.cells [I 0, I 0, I 0, VV.nils, VV.bool false] 49) :: ((VH.mk (0 + 1) [(0, VB.cells (tsL t) 25)]).nx, vtB V) :: (VH.mk (0 + 1) [(0, VB.cells (tsL t) 25)]).bs)).bs)) 4 (VV.agg [VV.tl t.T.length 1 (dG t.T), I (min (1000 : Int) (t.far + wh)), I t.least]) (VV.agg (tsL (farT t (min (1000 : Int) (t.far + wh))))) ∧ ∀ (n e : Int), n = chpC l (farT t (min (1000 : Int) (t.far + wh))) y m ∧ e = chpE l (farT t (min (1000 : Int) (t.far + wh))) y m → bif !decide (e = (0 : Int)) then
 Q (VRes.ret (VV.bool false))
 else bif decide (n > costF l c) then
 Q (VRes.ret (VV.bool false))
 else bif decide ((↑l.length : Int) = (0 : Int)) then
 Q (VRes.ret (VV.bool true))
 else bif inK IntKind.i64 wh then
 bif decide ((↑l.length : Int) = (0 : Int)) then
 False
 else bif roomB (0 + l.length) (56) then
 bif decide ((0 : Int) ≤ remZ wh (↑l.length : Int) ∧ remZ wh (↑l.length : Int) < (↑l.length : Int)) then
 bif inK IntKind.i64 ((l.getD (remZ wh (↑l.length : Int)).toNat k0).casks + (1 : Int)) then
 bif decide ((0 : Int) ≤ remZ wh (↑l.length : Int) ∧ remZ wh (↑l.length : Int) < (↑(0 + l.length) : Int)) then
 bif (0 + l.length).beq (0 + l.length) && Nat.ble 1 Try.prog.types[32].size then
 bif (0 + l.length).beq (0 + l.length) && [I (min (6 : Int) ((l.getD (remZ wh (↑l.length : Int)).toNat k0).casks + (1 : Int)))].all VV.one && belL 0 [I (min (6 : Int) ((l.getD (remZ wh (↑l.length : Int)).toNat k0).casks + (1 : Int)))] then
 ∃ (l' : List Stk), isD (VH.mk (6) ((5, VB.vec (0 + l.length) (atG (remZ wh (↑l.length : Int)).toNat (catG 0 (fun (j : Nat) => List.take (5) (List.drop (j * (5)) [])) (stG l)) (setL (catG 0 (fun (j : Nat) => List.take (5) (List.drop (j * (5)) [])) (stG l) (remZ wh (↑l.length : Int)).toNat) 0 [I (min (6 : Int) ((l.getD (remZ wh (↑l.length : Int)).toNat k0).casks + (1 : Int)))])) (5) 32) :: (5, VB.vec (0 + l.length) (catG 0 (fun (j : Nat) => List.take (5) (List.drop (j * (5)) [])) (stG l)) (5) 32) :: (5, VB.vec 0 (fun (j : Nat) => List.take (5) (List.drop (j * (5)) [])) (5) 32) :: (4, VB.cells [VV.tl t.T.length 1 (dG t.T), I (min (1000 : Int) (t.far + wh)), I t.least] 25) :: (4, VB.cells (tsL t) 25) :: (4, VB.cells [VV.nils, I 0, I 0] 25) :: ((VH.mk (3) ((2, VB.cells [I V.v, I V.c, I V.a, VV.sl (VH.mk (0 + 1) [(0, VB.cells (tsL t) 25)]).nx V.P.length, VV.bool V.k] 49) :: (2, VB.cells [I 0, I 0, I 0, VV.nils, VV.bool false] 49) :: ((VH.mk (0 + 1) [(0, VB.cells (tsL t) 25)]).nx, vtB V) :: (VH.mk (0 + 1) [(0, VB.cells (tsL t) 25)]).bs)).nx, VB.vec l.length (chG (someF l B)) 1 (3 : TypeId)) :: (VH.mk (3) ((2, VB.cells [I V.v, I V.c, I V.a, VV.sl (VH.mk (0 + 1) [(0, VB.cells (tsL t) 25)]).nx V.P.length, VV.bool V.k] 49) :: (2, VB.cells [I 0, I 0, I 0, VV.nils, VV.bool false] 49) :: ((VH.mk (0 + 1) [(0, VB.cells (tsL t) 25)]).nx, vtB V) :: (VH.mk (0 + 1) [(0, VB.cells (tsL t) 25)]).bs)).bs)) 4 (VV.sl (5) (0 + l.length)) (stD l') ∧ isD (VH.mk (6) ((5, VB.vec (0 + l.length) (atG (remZ wh (↑l.length : Int)).toNat (catG 0 (fun (j : Nat) => List.take (5) (List.drop (j * (5)) [])) (stG l)) (setL (catG 0 (fun (j : Nat) => List.take (5) (List.drop (j * (5)) [])) (stG l) (remZ wh (↑l.length : Int)).toNat) 0 [I (min (6 : Int) ((l.getD (remZ wh (↑l.length : Int)).toNat k0).casks + (1 : Int)))])) (5) 32) :: (5, VB.vec (0 + l.length) (catG 0 (fun (j : Nat) => List.take (5) (List.drop (j * (5)) [])) (stG l)) (5) 32) :: (5, VB.vec 0 (fun (j : Nat) => List.take (5) (List.drop (j * (5)) [])) (5) 32) :: (4, VB.cells [VV.tl t.T.length 1 (dG t.T), I (min (1000 : Int) (t.far + wh)), I t.least] 25) :: (4, VB.cells (tsL t) 25) :: (4, VB.cells [VV.nils, I 0, I 0] 25) :: ((VH.mk (3) ((2, VB.cells [I V.v, I V.c, I V.a, VV.sl (VH.mk (0 + 1) [(0, VB.cells (tsL t) 25)]).nx V.P.length, VV.bool V.k] 49) :: (2, VB.cells [I 0, I 0, I 0, VV.nils, VV.bool false] 49) :: ((VH.mk (0 + 1) [(0, VB.cells (tsL t) 25)]).nx, vtB V) :: (VH.mk (0 + 1) [(0, VB.cells (tsL t) 25)]).bs)).nx, VB.vec l.length (chG (someF l B)) 1 (3 : TypeId)) :: (VH.mk (3) ((2, VB.cells [I V.v, I V.c, I V.a, VV.sl (VH.mk (0 + 1) [(0, VB.cells (tsL t) 25)]).nx V.P.length, VV.bool V.k] 49) :: (2, VB.cells [I 0, I 0, I 0, VV.nils, VV.bool false] 49) :: ((VH.mk (0 + 1) [(0, VB.cells (tsL t) 25)]).nx, vtB V) :: (VH.mk (0 + 1) [(0, VB.cells (tsL t) 25)]).bs)).bs)) 4 (VV.agg (tsL t)) (VV.agg (tsL t)) ∧ ∀ (n e : Int), n = chpC l' t y m ∧ e = chpE l' t y m → bif decide (e = (0 : Int)) then
 bif decide (n ≤ costF l c) then
 Q (VRes.ret (VV.bool true))
 else Q (VRes.ret (VV.bool false))
 else Q (VRes.ret (VV.bool false))
 else False
 else False
 else False
 else False
 else False
 else False
 else False
 else False
 else False
 else bif inK IntKind.i64 wh then
 bif inK IntKind.i64 (t.far + wh) then
 isD (VH.mk (5) ((4, VB.cells [VV.tl t.T.length 1 (dG t.T), I (min (1000 : Int) (t.far + wh)), I t.least] 25) :: (4, VB.cells (tsL t) 25) :: (4, VB.cells [VV.nils, I 0, I 0] 25) :: ((VH.mk (3) ((2, VB.cells [I V.v, I V.c, I V.a, VV.sl (VH.mk (0 + 1) [(0, VB.cells (tsL t) 25)]).nx V.P.length, VV.bool V.k] 49) :: (2, VB.cells [I 0, I 0, I 0, VV.nils, VV.bool false] 49) :: ((VH.mk (0 + 1) [(0, VB.cells (tsL t) 25)]).nx, vtB V) :: (VH.mk (0 + 1) [(0, VB.cells (tsL t) 25)]).bs)).nx, VB.vec l.length (chG (someF l B)) 1 (3 : TypeId)) :: (VH.mk (3) ((2, VB.cells [I V.v, I V.c, I V.a, VV.sl (VH.mk (0 + 1) [(0, VB.cells (tsL t) 25)]).nx V.P.length, VV.bool V.k] 49) :: (2, VB.cells [I 0, I 0, I 0, VV.nils, VV.bool false] 49) :: ((VH.mk (0 + 1) [(0, VB.cells (tsL t) 25)]).nx, vtB V) :: (VH.mk (0 + 1) [(0, VB.cells (tsL t) 25)]).bs)).bs)) 4 (stD l) (stD l) ∧ isD (VH.mk (5) ((4, VB.cells [VV.tl t.T.length 1 (dG t.T), I (min (1000 : Int) (t.far + wh)), I t.least] 25) :: (4, VB.cells (tsL t) 25) :: (4, VB.cells [VV.nils, I 0, I 0] 25) :: ((VH.mk (3) ((2, VB.cells [I V.v, I V.c, I V.a, VV.sl (VH.mk (0 + 1) [(0, VB.cells (tsL t) 25)]).nx V.P.length, VV.bool V.k] 49) :: (2, VB.cells [I 0, I 0, I 0, VV.nils, VV.bool false] 49) :: ((VH.mk (0 + 1) [(0, VB.cells (tsL t) 25)]).nx, vtB V) :: (VH.mk (0 + 1) [(0, VB.cells (tsL t) 25)]).bs)).nx, VB.vec l.length (chG (someF l B)) 1 (3 : TypeId)) :: (VH.mk (3) ((2, VB.cells [I V.v, I V.c, I V.a, VV.sl (VH.mk (0 + 1) [(0, VB.cells (tsL t) 25)]).nx V.P.length, VV.bool V.k] 49) :: (2, VB.cells [I 0, I 0, I 0, VV.nils, VV.bool false] 49) :: ((VH.mk (0 + 1) [(0, VB.cells (tsL t) 25)]).nx, vtB V) :: (VH.mk (0 + 1) [(0, VB.cells (tsL t) 25)]).bs)).bs)) 4 (VV.agg [VV.tl t.T.length 1 (dG t.T), I (min (1000 : Int) (t.far + wh)), I t.least]) (VV.agg (tsL (farT t (min (1000 : Int) (t.far + wh))))) ∧ ∀ (n e : Int), n = chpC l (farT t (min (1000 : Int) (t.far + wh))) y m ∧ e = chpE l (farT t (min (1000 : Int) (t.far + wh))) y m → bif !decide (e = (0 : Int)) then
 Q (VRes.ret (VV.bool false))
 else bif decide (n > costF l c) then
 Q (VRes.ret (VV.bool false))
 else bif decide ((↑l.length : Int) = (0 : Int)) then
 Q (VRes.ret (VV.bool true))
 else bif inK IntKind.i64 wh then
 bif decide ((↑l.length : Int) = (0 : Int)) then
 False
 else bif roomB (0 + l.length) (56) then
 bif decide ((0 : Int) ≤ remZ wh (↑l.length : Int) ∧ remZ wh (↑l.length : Int) < (↑l.length : Int)) then
 bif inK IntKind.i64 ((l.getD (remZ wh (↑l.length : Int)).toNat k0).casks + (1 : Int)) then
 bif decide ((0 : Int) ≤ remZ wh (↑l.length : Int) ∧ remZ wh (↑l.length : Int) < (↑(0 + l.length) : Int)) then
 bif (0 + l.length).beq (0 + l.length) && Nat.ble 1 Try.prog.types[32].size then
 bif (0 + l.length).beq (0 + l.length) && [I (min (6 : Int) ((l.getD (remZ wh (↑l.length : Int)).toNat k0).casks + (1 : Int)))].all VV.one && belL 0 [I (min (6 : Int) ((l.getD (remZ wh (↑l.length : Int)).toNat k0).casks + (1 : Int)))] then
 ∃ (l' : List Stk), isD (VH.mk (6) ((5, VB.vec (0 + l.length) (atG (remZ wh (↑l.length : Int)).toNat (catG 0 (fun (j : Nat) => List.take (5) (List.drop (j * (5)) [])) (stG l)) (setL (catG 0 (fun (j : Nat) => List.take (5) (List.drop (j * (5)) [])) (stG l) (remZ wh (↑l.length : Int)).toNat) 0 [I (min (6 : Int) ((l.getD (remZ wh (↑l.length : Int)).toNat k0).casks + (1 : Int)))])) (5) 32) :: (5, VB.vec (0 + l.length) (catG 0 (fun (j : Nat) => List.take (5) (List.drop (j * (5)) [])) (stG l)) (5) 32) :: (5, VB.vec 0 (fun (j : Nat) => List.take (5) (List.drop (j * (5)) [])) (5) 32) :: (4, VB.cells [VV.tl t.T.length 1 (dG t.T), I (min (1000 : Int) (t.far + wh)), I t.least] 25) :: (4, VB.cells (tsL t) 25) :: (4, VB.cells [VV.nils, I 0, I 0] 25) :: ((VH.mk (3) ((2, VB.cells [I V.v, I V.c, I V.a, VV.sl (VH.mk (0 + 1) [(0, VB.cells (tsL t) 25)]).nx V.P.length, VV.bool V.k] 49) :: (2, VB.cells [I 0, I 0, I 0, VV.nils, VV.bool false] 49) :: ((VH.mk (0 + 1) [(0, VB.cells (tsL t) 25)]).nx, vtB V) :: (VH.mk (0 + 1) [(0, VB.cells (tsL t) 25)]).bs)).nx, VB.vec l.length (chG (someF l B)) 1 (3 : TypeId)) :: (VH.mk (3) ((2, VB.cells [I V.v, I V.c, I V.a, VV.sl (VH.mk (0 + 1) [(0, VB.cells (tsL t) 25)]).nx V.P.length, VV.bool V.k] 49) :: (2, VB.cells [I 0, I 0, I 0, VV.nils, VV.bool false] 49) :: ((VH.mk (0 + 1) [(0, VB.cells (tsL t) 25)]).nx, vtB V) :: (VH.mk (0 + 1) [(0, VB.cells (tsL t) 25)]).bs)).bs)) 4 (VV.sl (5) (0 + l.length)) (stD l') ∧ isD (VH.mk (6) ((5, VB.vec (0 + l.length) (atG (remZ wh (↑l.length : Int)).toNat (catG 0 (fun (j : Nat) => List.take (5) (List.drop (j * (5)) [])) (stG l)) (setL (catG 0 (fun (j : Nat) => List.take (5) (List.drop (j * (5)) [])) (stG l) (remZ wh (↑l.length : Int)).toNat) 0 [I (min (6 : Int) ((l.getD (remZ wh (↑l.length : Int)).toNat k0).casks + (1 : Int)))])) (5) 32) :: (5, VB.vec (0 + l.length) (catG 0 (fun (j : Nat) => List.take (5) (List.drop (j * (5)) [])) (stG l)) (5) 32) :: (5, VB.vec 0 (fun (j : Nat) => List.take (5) (List.drop (j * (5)) [])) (5) 32) :: (4, VB.cells [VV.tl t.T.length 1 (dG t.T), I (min (1000 : Int) (t.far + wh)), I t.least] 25) :: (4, VB.cells (tsL t) 25) :: (4, VB.cells [VV.nils, I 0, I 0] 25) :: ((VH.mk (3) ((2, VB.cells [I V.v, I V.c, I V.a, VV.sl (VH.mk (0 + 1) [(0, VB.cells (tsL t) 25)]).nx V.P.length, VV.bool V.k] 49) :: (2, VB.cells [I 0, I 0, I 0, VV.nils, VV.bool false] 49) :: ((VH.mk (0 + 1) [(0, VB.cells (tsL t) 25)]).nx, vtB V) :: (VH.mk (0 + 1) [(0, VB.cells (tsL t) 25)]).bs)).nx, VB.vec l.length (chG (someF l B)) 1 (3 : TypeId)) :: (VH.mk (3) ((2, VB.cells [I V.v, I V.c, I V.a, VV.sl (VH.mk (0 + 1) [(0, VB.cells (tsL t) 25)]).nx V.P.length, VV.bool V.k] 49) :: (2, VB.cells [I 0, I 0, I 0, VV.nils, VV.bool false] 49) :: ((VH.mk (0 + 1) [(0, VB.cells (tsL t) 25)]).nx, vtB V) :: (VH.mk (0 + 1) [(0, VB.cells (tsL t) 25)]).bs)).bs)) 4 (VV.agg (tsL t)) (VV.agg (tsL t)) ∧ ∀ (n e : Int), n = chpC l' t y m ∧ e = chpE l' t y m → bif decide (e = (0 : Int)) then
 bif decide (n ≤ costF l c) then
 Q (VRes.ret (VV.bool true))
 else Q (VRes.ret (VV.bool false))
 else Q (VRes.ret (VV.bool false))
 else False
 else False
 else False
 else False
 else False
 else False
 else False
 else False
 else False) := by kernel_rfl

end Go.Sx.Bln

/- blend: the rows and the loop of the law BlendLeast. -/

namespace Go.Sx.Bln
open Go Go.Sx Go.Proofs
set_option maxRecDepth 1000000

section
variable {l : List Stk} {t : Tst} {y m more wh : Int} {B : List Int} {c : Nat → Int}

theorem grK_ok (l : List Stk) (t : Tst) (b : Bool) : SpOk Try.prog (grK l t b).1 (grK l t b).2 := by
  intro lock args h K hK
  simp only [grK] at hK
  split at hK
  · obtain ⟨h1, h2, rfl, hK⟩ := hK
    exact greatT_ok lock _ h K ⟨l, t, h1, h2, hK⟩
  · exact hK.elim
theorem rtY_ok (t : Tst) : SpOk Try.prog (rtY t).1 (rtY t).2 := by
  intro lock args h K hK
  simp only [rtY] at hK
  split at hK
  · obtain ⟨h1, ⟨h2, h3⟩, hK⟩ := hK
    exact rtT_ok lock _ h K ⟨t, h1, h2, by rw [h3]; exact hK⟩
  · exact hK.elim
theorem rsY_ok (l : List Stk) (t : Tst) : SpOk Try.prog (rsY l t).1 (rsY l t).2 := by
  intro lock args h K hK
  simp only [rsY] at hK
  split at hK
  · obtain ⟨h1, h2, ⟨h3, h4, h5⟩, hK⟩ := hK
    exact rsT_ok lock _ h K ⟨l, t, h1, h2, ⟨h3, h4⟩, by rw [h5]; exact hK⟩
  · exact hK.elim
theorem chK_ok {E : Int} {P : Int → Int → Prop} {R : VRes} (hR : ∀ y m, chpE l t y m = E → P y m → (E ≠ 0 ∧ R = rErr E) ∨ (E = 0 ∧ ∃ c, chpF l t y m = some c ∧ R = rChp l c)) : SpOk Try.prog (chK l t E P R).1 (chK l t E P R).2 := by
  intro lock args h K hK
  simp only [chK] at hK
  split at hK
  · obtain ⟨rfl, rfl, ⟨h3, h4⟩, hK⟩ := hK
    refine cheapR_ok l t lock _ h K ⟨rfl, rfl, fun he => ?_, fun he c hc => ?_⟩
    · rcases hR _ _ h3 h4 with ⟨h5, rfl⟩ | ⟨h5, _⟩
      · rw [h3]; exact hK
      · exact (he (h3.trans h5)).elim
    · rcases hR _ _ h3 h4 with ⟨h5, _⟩ | ⟨_, d, hd, rfl⟩
      · exact (h5 (h3.symm.trans he)).elim
      · rw [hc] at hd
        cases hd
        exact hK
  · obtain ⟨h1, h2, hK⟩ := hK
    exact cheapA_ok lock _ h K ⟨l, _, h1, h2, hK _ _ ⟨rfl, rfl⟩⟩
  · obtain ⟨l', h1, h2, hK⟩ := hK
    exact cheapA_ok lock _ h K ⟨l', t, h1, h2, hK _ _ ⟨rfl, rfl⟩⟩
  · exact hK.elim
theorem blY_ok (l : List Stk) (t : Tst) : SpOk Try.prog (blY l t).1 (blY l t).2 := by
  intro lock args h K hK
  simp only [blY] at hK
  split at hK
  · obtain ⟨h1, h2, D, h3, h4, hK⟩ := hK
    exact bldT_ok lock _ h K ⟨l, t, D, h1, h2, h3, fun h => (h h4).elim, fun _ => hK⟩
  · exact hK.elim
theorem lmK_ok (l : List Stk) (t : Tst) (b : Bool) : SpOk Try.prog (lmK l t b).1 (lmK l t b).2 := by
  intro lock args h K hK
  simp only [lmK] at hK
  split at hK
  · obtain ⟨h1, h2, D, h3, h4, hK⟩ := hK
    exact lmT_ok lock _ h K ⟨l, t, D, h1, h2, h3, by rw [h4]; exact hK⟩
  · obtain ⟨h1, h2, D, h3, h4, hK⟩ := hK
    exact lmT_ok lock _ h K ⟨l, t, D, h1, h2, h3, by rw [h4]; exact hK⟩
  · exact hK.elim

theorem lLe_ok : LSound Try.prog true (.block 0 (.loop (loopB 0 (bodyOf Try.prog 8)))) (ntOf Try.prog 8) (lLe l t y m more wh B c) := by
  refine loop_row hmix good0 (un := 10) (ds := dsLe) (ns := [0, 3, 5]) (nx := 6) (fun s : Nat × Vt => VLe l t y m more wh B c s.1) (fun s => BLe l t B s.2) (fun s => s.1 ≤ l.length ∧ l.length ≤ 6 ∧ (s.2.c = costF l c → (∀ p, p < s.1 → c p = someF l B p) ∧ (c = someF l B ∨ lexLt l.length c (someF l B)))) (fun s => l.length - s.1) (fun s ex vs bs => ex = .exit 0 ∧ bs = BLe l t B s.2 ∧ ∃ i : Nat, vs = VLe l t y m more wh B c i) noL_ok ?_ ?_
  · rintro ⟨i, V⟩ ⟨h0, h6, hc⟩
    dsimp only at h0 hc
    refine cast (lel_ev l t y m more wh B c V i _).symm ?_
    have e : (i : Int).toNat = i := by omega
    have b1 : (l.length.beq l.length && Nat.ble 1 Try.prog.types[3].size) = true := Bool.and_eq_true_iff.2 ⟨Nat.beq_refl _, by kernel_rfl⟩
    have b2 : l.length.beq l.length = true := Nat.beq_refl _
    rw [e]
    by_cases hlt : i < l.length
    · refine cond_dk (by omega) (cond_d (fun hv => ?_) (fun hv => ?_))
      · obtain ⟨hp, hx⟩ := hc hv
        refine cond_dk (by omega) (cond_dk (by omega) (cond_k b1 (cond_k b2 (cond_nd (fun hne => ?_) (fun he => ?_)))))
        · refine cond_dk (by omega) (cond_dk (by omega) (cond_k b1 (cond_k b2 (cond_d (fun hg => ?_) (fun _ => ⟨rfl, rfl, i, rfl⟩)))))
          exfalso
          rcases hx with hx | ⟨j, hj, h1, h2⟩
          · rw [hx] at hne; exact hne rfl
          · rcases Nat.lt_trichotomy i j with h | h | h
            · exact hne (h1 i h)
            · subst h; omega
            · have := hp j h; omega
        · refine cond_r (by omega) ⟨(i + 1, V), ⟨by dsimp only; omega, h6, fun hv => ⟨fun p hp2 => ?_, hx⟩⟩, by dsimp only; omega, rfl, fitBs_refl _, fun _ _ _ h => h⟩
          dsimp only at hp2
          by_cases hpi : p = i
          · subst hpi; exact he
          · exact hp p (by omega)
      · exact cond_r (by omega) ⟨(i + 1, V), ⟨by dsimp only; omega, h6, fun h => (hv h).elim⟩, by dsimp only; omega, rfl, fitBs_refl _, fun _ _ _ h => h⟩
    · exact cond_d (fun h => by omega) (fun _ => ⟨rfl, rfl, i, rfl⟩)
  · rintro lock tt h K ⟨V, hf, ⟨h6, hc⟩, k1⟩
    refine ⟨(0, V), hf, ⟨Nat.zero_le _, h6, fun hv => ⟨fun p hp => by dsimp only at hp; omega, hc hv⟩⟩, ?_⟩
    rintro ex vs bs ⟨rfl, rfl, i, rfl⟩
    exact k1 i
end
end Go.Sx.Bln

/- blend: the law BlendLeast, case by case (printed by fd2.py). -/

namespace Go.Sx.Bln
open Go Go.Sx Go.Proofs
set_option maxRecDepth 1000000

theorem room6 : ∀ n : Nat, n < 7 → roomB (0 + n) 56 = true := by decide
theorem isD_rch {l : List Stk} {h : VH} {k n d : Nat} {e : Nat → List VV} (hk : k < l.length) (hm : h.at n = .vec (0 + l.length) (atG k (catG 0 e (stG l)) (setL (catG 0 e (stG l) k) 0 [I (min 6 ((l.getD k k0).casks + 1))])) 5 32) : isD h (d + 1) (.sl n (0 + l.length)) (stD (rchL l k)) :=
  ⟨by rw [rchL_len]; omega, by decide, _, _, hm, fun j _ => rch_el hk j⟩

section
variable {l : List Stk} {t : Tst} {y m more wh : Int} {B : List Int} {c : Nat → Int}

theorem le_g (hg : greatF l t 1000 = true) : ∃ h', CallsV Try.prog 8 [stD l, .agg (tsL t), I y, I m, I more, .int .u8 wh, byD B] ⟨0, []⟩ (.ret (.bool true)) h' := by
  have htab : ∀ f T, tabS [grK l t true, alT] f = some T → SpOk Try.prog f T := tab_ok _ (fun x hx => by
    simp only [List.mem_cons, List.not_mem_nil, or_false] at hx
    rcases hx with rfl | rfl
    · exact grK_ok l t true
    · exact alT_ok)
  obtain ⟨r, h', rfl, hcl⟩ := of_callN (noL_good htab) (f := 8) (args := [stD l, .agg (tsL t), I y, I m, I more, .int .u8 wh, byD B]) (h := ⟨0, []⟩) (K := fun r _ => r = .ret (.bool true)) (by
    refine cast (lgr_ev l t y m more wh B _).symm ⟨isD_l, isD_t, hg, ?_⟩
    rfl)
  exact ⟨h', hcl⟩

theorem le_1 (hg : greatF l t 1000 = false) (he : chpE l t y m = 1) : ∃ h', CallsV Try.prog 8 [stD l, .agg (tsL t), I y, I m, I more, .int .u8 wh, byD B] ⟨0, []⟩ (.ret (.bool true)) h' := by
  have htab : ∀ f T, tabS [grK l t false, chK l t 1 (fun _ _ => True) (rErr 1), alT] f = some T → SpOk Try.prog f T := tab_ok _ (fun x hx => by
    simp only [List.mem_cons, List.not_mem_nil, or_false] at hx
    rcases hx with rfl | rfl | rfl
    · exact grK_ok l t false
    · exact chK_ok (fun _ _ _ _ => .inl ⟨by decide, rfl⟩)
    · exact alT_ok)
  obtain ⟨r, h', rfl, hcl⟩ := of_callN (noL_good htab) (f := 8) (args := [stD l, .agg (tsL t), I y, I m, I more, .int .u8 wh, byD B]) (h := ⟨0, []⟩) (K := fun r _ => r = .ret (.bool true)) (by
    refine cast (ler1_ev l t y m more wh B _).symm ⟨isD_l, isD_t, hg, ?_⟩
    exact cond_d (fun _ => rfl) (fun _ => ⟨rfl, rfl, ⟨he, trivial⟩, rfl⟩))
  exact ⟨h', hcl⟩

theorem le_2 (hg : greatF l t 1000 = false) (he : chpE l t y m = 2) : ∃ h', CallsV Try.prog 8 [stD l, .agg (tsL t), I y, I m, I more, .int .u8 wh, byD B] ⟨0, []⟩ (.ret (.bool true)) h' := by
  have htab : ∀ f T, tabS [grK l t false, chK l t 2 (fun _ _ => True) (rErr 2), alT] f = some T → SpOk Try.prog f T := tab_ok _ (fun x hx => by
    simp only [List.mem_cons, List.not_mem_nil, or_false] at hx
    rcases hx with rfl | rfl | rfl
    · exact grK_ok l t false
    · exact chK_ok (fun _ _ _ _ => .inl ⟨by decide, rfl⟩)
    · exact alT_ok)
  obtain ⟨r, h', rfl, hcl⟩ := of_callN (noL_good htab) (f := 8) (args := [stD l, .agg (tsL t), I y, I m, I more, .int .u8 wh, byD B]) (h := ⟨0, []⟩) (K := fun r _ => r = .ret (.bool true)) (by
    refine cast (ler2_ev l t y m more wh B _).symm ⟨isD_l, isD_t, hg, ?_⟩
    exact cond_d (fun _ => rfl) (fun _ => ⟨rfl, rfl, ⟨he, trivial⟩, rfl⟩))
  exact ⟨h', hcl⟩

theorem le_no (hB : ∀ i, 0 ≤ B.getD i 0 ∧ B.getD i 0 ≤ 255) (hw : 0 ≤ wh ∧ wh ≤ 255) (hg : greatF l t 1000 = false) (he : chpE l t y m = 4) : ∃ h', CallsV Try.prog 8 [stD l, .agg (tsL t), I y, I m, I more, .int .u8 wh, byD B] ⟨0, []⟩ (.ret (.bool true)) h' := by
  obtain ⟨ho, hr⟩ := chpE_0 (.inr he)
  have htab : ∀ f T, tabS [grK l t false, chK l t 4 (fun _ _ => True) (rErr 4), rtY t, rsY l t, smB l B, lmK l t false, alT] f = some T → SpOk Try.prog f T := tab_ok _ (fun x hx => by
    simp only [List.mem_cons, List.not_mem_nil, or_false] at hx
    rcases hx with rfl | rfl | rfl | rfl | rfl | rfl | rfl
    · exact grK_ok l t false
    · exact chK_ok (fun _ _ _ _ => .inl ⟨by decide, rfl⟩)
    · exact rtY_ok t
    · exact rsY_ok l t
    · exact smB_ok l B
    · exact lmK_ok l t false
    · exact alT_ok)
  obtain ⟨r, h', rfl, hcl⟩ := of_callN (noL_good htab) (f := 8) (args := [stD l, .agg (tsL t), I y, I m, I more, .int .u8 wh, byD B]) (h := ⟨0, []⟩) (K := fun r _ => r = .ret (.bool true)) (by
    refine cast (lno_ev l t y m more wh B _).symm ⟨isD_l, isD_t, hg, ?_⟩
    refine cond_d (fun _ => rfl) (fun hB0 => ?_)
    obtain ⟨hl, hp, ht, hT1, hT4⟩ := okAll_l ho
    have hl6 := hl.1
    have hst : (decide (l.length ≤ 6) && !anyS l t) = true := by
      have e : okAll l t = (okT t && (decide (l.length ≤ 6) && !anyS l t)) := by unfold okAll; rw [Bool.and_assoc]
      rw [e, Bool.and_eq_true] at ho
      exact ho.2
    have hfar : 0 ≤ t.far ∧ t.far ≤ 1000 := (okT_tB ht).2.2.1
    have hwi : -9223372036854775808 ≤ wh ∧ wh ≤ 9223372036854775807 := by omega
    have hfi : -9223372036854775808 ≤ t.far + wh ∧ t.far + wh ≤ 9223372036854775807 := by omega
    have hroom : roomB (0 + l.length) 56 = true := room6 _ (by omega)
    have hrem : (l.length : Int) ≠ 0 → 0 ≤ remZ wh (l.length : Int) ∧ remZ wh (l.length : Int) < (l.length : Int) := fun h => by
      rw [remZ_nn hw.1]
      exact ⟨Int.emod_nonneg _ h, Int.emod_lt_of_pos _ (by omega)⟩
    have hk3 : (l.length : Int) ≠ 0 → (remZ wh (l.length : Int)).toNat < l.length := fun h => by have := hrem h; omega
    have hk1 : (l.length : Int) ≠ 0 → 0 ≤ remZ wh (l.length : Int) ∧ remZ wh (l.length : Int) < (l.length : Int) := hrem
    have hk2 : (l.length : Int) ≠ 0 → 0 ≤ remZ wh (l.length : Int) ∧ remZ wh (l.length : Int) < ((0 + l.length : Nat) : Int) := fun h => by have := hrem h; omega
    have hck : (l.length : Int) ≠ 0 → -9223372036854775808 ≤ (l.getD (remZ wh (l.length : Int)).toNat k0).casks + 1 ∧ (l.getD (remZ wh (l.length : Int)).toNat k0).casks + 1 ≤ 9223372036854775807 := fun h => by have := (hl.2 _ (hk3 h)).1; omega
    have b1 : ((0 + l.length).beq (0 + l.length) && Nat.ble 1 Try.prog.types[32].size) = true := Bool.and_eq_true_iff.2 ⟨Nat.beq_refl _, by kernel_rfl⟩
    have b2 : ∀ x : Int, ((0 + l.length).beq (0 + l.length) && [I x].all VV.one && belL 0 [I x]) = true := fun x => by rw [show (0 + l.length).beq (0 + l.length) = true from Nat.beq_refl _]; rfl
    have hu8 : u8B B := ⟨by omega, hB⟩
    have hsm : ∀ i, i < l.length → 0 ≤ someF l B i ∧ someF l B i ≤ (l.getD i k0).casks := fun i hi => some_bd hl hu8 hi
    have hsg : ∀ i, l.length ≤ i → someF l B i = 0 := fun i hi => some_ge hi
    have hno := chpE_none he
    have hlm : lmF l t y m (dC l (someF l B)) = false := by
      cases hx : lmF l t y m (dC l (someF l B)) with
      | false => rfl
      | true =>
        obtain ⟨d, hd, _⟩ := chp_le hl hsm hsg (lm_meets hsg hx)
        rw [hno] at hd; cases hd
    have hM : ∀ n e : Int, more ≥ m → more ≤ 1048576 → (n = chpC l (farT t t.far) y more ∧ e = chpE l (farT t t.far) y more) → e = 0 → m > 0 → False := fun n e g1 g2 ⟨_, he⟩ e0 h2 => by
      have he : e = chpE l t y more := he
      rcases chpE_cases (m := more) ho ⟨hr.1, by omega, g2⟩ with ⟨_, h3, _⟩ | ⟨d, h3, _, h4⟩
      · omega
      · obtain ⟨d', d1, d2⟩ := chp_need hl h3 h2 g1
        rw [hno] at d1; cases d1
    exact ⟨rfl, rfl, ⟨he, trivial⟩, isD_t, ⟨by omega, ht⟩, isD_l, isD_t, ⟨by omega, by omega, hst⟩, isD_l, ⟨rfl, rfl, fun _ _ => rfl⟩, ⟨hl, hu8⟩, isD_l, isD_t, dC l (someF l B), isD_own rfl, hlm, cond_d (fun g1 => cond_d (fun g2 => ⟨isD_l, isD_t, fun n e hne => cond_d (fun e0 => cond_d (fun hm => (hM n e g1 g2 hne e0 hm).elim) (fun _ => cond_r hwi (cond_r hfi ⟨isD_l, isD_t (t := farT t (min 1000 (t.far + wh))), fun _ _ _ => cond_d (fun _ => rfl) (fun h0 => cond_r hwi (cond_d (fun h => (h0 h).elim) (fun _ => cond_k hroom (cond_dk (hk1 h0) (cond_r (hck h0) (cond_dk (hk2 h0) (cond_k b1 (cond_k (b2 _) ⟨rchL l (remZ wh (l.length : Int)).toNat, isD_rch (hk3 h0) rfl, isD_t, fun _ _ _ => rfl⟩))))))))⟩))) (fun _ => cond_r hwi (cond_r hfi ⟨isD_l, isD_t (t := farT t (min 1000 (t.far + wh))), fun _ _ _ => cond_d (fun _ => rfl) (fun h0 => cond_r hwi (cond_d (fun h => (h0 h).elim) (fun _ => cond_k hroom (cond_dk (hk1 h0) (cond_r (hck h0) (cond_dk (hk2 h0) (cond_k b1 (cond_k (b2 _) ⟨rchL l (remZ wh (l.length : Int)).toNat, isD_rch (hk3 h0) rfl, isD_t, fun _ _ _ => rfl⟩))))))))⟩))⟩) (fun _ => cond_r hwi (cond_r hfi ⟨isD_l, isD_t (t := farT t (min 1000 (t.far + wh))), fun _ _ _ => cond_d (fun _ => rfl) (fun h0 => cond_r hwi (cond_d (fun h => (h0 h).elim) (fun _ => cond_k hroom (cond_dk (hk1 h0) (cond_r (hck h0) (cond_dk (hk2 h0) (cond_k b1 (cond_k (b2 _) ⟨rchL l (remZ wh (l.length : Int)).toNat, isD_rch (hk3 h0) rfl, isD_t, fun _ _ _ => rfl⟩))))))))⟩))) (fun _ => cond_r hwi (cond_r hfi ⟨isD_l, isD_t (t := farT t (min 1000 (t.far + wh))), fun _ _ _ => cond_d (fun _ => rfl) (fun h0 => cond_r hwi (cond_d (fun h => (h0 h).elim) (fun _ => cond_k hroom (cond_dk (hk1 h0) (cond_r (hck h0) (cond_dk (hk2 h0) (cond_k b1 (cond_k (b2 _) ⟨rchL l (remZ wh (l.length : Int)).toNat, isD_rch (hk3 h0) rfl, isD_t, fun _ _ _ => rfl⟩))))))))⟩))⟩)
  exact ⟨h', hcl⟩

theorem le_s0 (hB : ∀ i, 0 ≤ B.getD i 0 ∧ B.getD i 0 ≤ 255) (hw : 0 ≤ wh ∧ wh ≤ 255) (hg : greatF l t 1000 = false) (he : chpE l t y m = 0) (hc : chpF l t y m = some c) (hlm : lmF l t y m (dC l (someF l B)) = false) : ∃ h', CallsV Try.prog 8 [stD l, .agg (tsL t), I y, I m, I more, .int .u8 wh, byD B] ⟨0, []⟩ (.ret (.bool true)) h' := by
  obtain ⟨ho, hr⟩ := chpE_0 (.inl he)
  have htab : ∀ f T, tabS [grK l t false, chK l t 0 (fun y m => chpF l t y m = some c) (rChp l c), rtY t, rsY l t, smB l B, blY l t, lmK l t false, alT] f = some T → SpOk Try.prog f T := tab_ok _ (fun x hx => by
    simp only [List.mem_cons, List.not_mem_nil, or_false] at hx
    rcases hx with rfl | rfl | rfl | rfl | rfl | rfl | rfl | rfl
    · exact grK_ok l t false
    · exact chK_ok (fun y m h1 h2 => .inr ⟨rfl, _, h2, rfl⟩)
    · exact rtY_ok t
    · exact rsY_ok l t
    · exact smB_ok l B
    · exact blY_ok l t
    · exact lmK_ok l t false
    · exact alT_ok)
  obtain ⟨r, h', rfl, hcl⟩ := of_callN (noL_good htab) (f := 8) (args := [stD l, .agg (tsL t), I y, I m, I more, .int .u8 wh, byD B]) (h := ⟨0, []⟩) (K := fun r _ => r = .ret (.bool true)) (by
    refine cast (lyp_ev l t y m more wh B c _).symm ⟨isD_l, isD_t, hg, ?_⟩
    refine cond_d (fun _ => rfl) (fun hB0 => ?_)
    obtain ⟨hl, hp, ht, hT1, hT4⟩ := okAll_l ho
    have hl6 := hl.1
    have hst : (decide (l.length ≤ 6) && !anyS l t) = true := by
      have e : okAll l t = (okT t && (decide (l.length ≤ 6) && !anyS l t)) := by unfold okAll; rw [Bool.and_assoc]
      rw [e, Bool.and_eq_true] at ho
      exact ho.2
    have hfar : 0 ≤ t.far ∧ t.far ≤ 1000 := (okT_tB ht).2.2.1
    have hwi : -9223372036854775808 ≤ wh ∧ wh ≤ 9223372036854775807 := by omega
    have hfi : -9223372036854775808 ≤ t.far + wh ∧ t.far + wh ≤ 9223372036854775807 := by omega
    have hroom : roomB (0 + l.length) 56 = true := room6 _ (by omega)
    have hrem : (l.length : Int) ≠ 0 → 0 ≤ remZ wh (l.length : Int) ∧ remZ wh (l.length : Int) < (l.length : Int) := fun h => by
      rw [remZ_nn hw.1]
      exact ⟨Int.emod_nonneg _ h, Int.emod_lt_of_pos _ (by omega)⟩
    have hk3 : (l.length : Int) ≠ 0 → (remZ wh (l.length : Int)).toNat < l.length := fun h => by have := hrem h; omega
    have hk1 : (l.length : Int) ≠ 0 → 0 ≤ remZ wh (l.length : Int) ∧ remZ wh (l.length : Int) < (l.length : Int) := hrem
    have hk2 : (l.length : Int) ≠ 0 → 0 ≤ remZ wh (l.length : Int) ∧ remZ wh (l.length : Int) < ((0 + l.length : Nat) : Int) := fun h => by have := hrem h; omega
    have hck : (l.length : Int) ≠ 0 → -9223372036854775808 ≤ (l.getD (remZ wh (l.length : Int)).toNat k0).casks + 1 ∧ (l.getD (remZ wh (l.length : Int)).toNat k0).casks + 1 ≤ 9223372036854775807 := fun h => by have := (hl.2 _ (hk3 h)).1; omega
    have b1 : ((0 + l.length).beq (0 + l.length) && Nat.ble 1 Try.prog.types[32].size) = true := Bool.and_eq_true_iff.2 ⟨Nat.beq_refl _, by kernel_rfl⟩
    have b2 : ∀ x : Int, ((0 + l.length).beq (0 + l.length) && [I x].all VV.one && belL 0 [I x]) = true := fun x => by rw [show (0 + l.length).beq (0 + l.length) = true from Nat.beq_refl _]; rfl
    have hu8 : u8B B := ⟨by omega, hB⟩
    have hsm : ∀ i, i < l.length → 0 ≤ someF l B i ∧ someF l B i ≤ (l.getD i k0).casks := fun i hi => some_bd hl hu8 hi
    have hsg : ∀ i, l.length ≤ i → someF l B i = 0 := fun i hi => some_ge hi
    obtain ⟨c1, c2, c3⟩ := chp_all hl hc
    have hbc : bldE l t y (dC l c) = 0 := bldE_of ho hr.1 c1
    have hlc : lmF l t y m (dC l c) = true := meets_lm ho hr.1 c1 c2 c3
    have hvc : ∀ V, V = vtF l t (chD (dC l c)) y → V.c = costF l c := fun V h => by rw [h, chD_dC c2]; rfl
    have hF : ∀ n e : Int, (n = chpC l (farT t (min 1000 (t.far + wh))) y m ∧ e = chpE l (farT t (min 1000 (t.far + wh))) y m) → e = 0 ∧ n ≤ costF l c := fun n e ⟨hn, he⟩ => by
      obtain ⟨d, d1, d2⟩ := chp_far hl (f := min 1000 (t.far + wh)) hc (by omega)
      rcases chpE_cases (l := l) (t := farT t (min 1000 (t.far + wh))) (okAll_far ho (by omega)) hr with ⟨h1, _⟩ | ⟨d', h1, h2, h3⟩
      · rw [h1] at d1; cases d1
      · rw [h1] at d1; cases d1
        exact ⟨he.trans h2, by rw [hn, h3]; exact d2⟩
    have hR : (l.length : Int) ≠ 0 → ∀ n e : Int, (n = chpC (rchL l (remZ wh (l.length : Int)).toNat) t y m ∧ e = chpE (rchL l (remZ wh (l.length : Int)).toNat) t y m) → e = 0 ∧ n ≤ costF l c := fun h0 n e ⟨hn, he⟩ => by
      have ho' := rchL_ok (hk3 h0) ho
      obtain ⟨d, d1, d2⟩ := chp_rich hl (okAll_l ho').1 (rchL_like (hk3 h0)) (rchL_more hl (hk3 h0)) hc
      rcases chpE_cases ho' hr with ⟨h1, _⟩ | ⟨d', h1, h2, h3⟩
      · rw [h1] at d1; cases d1
      · rw [h1] at d1; cases d1
        exact ⟨he.trans h2, by rw [hn, h3]; exact d2⟩
    have hM : ∀ n e : Int, more ≥ m → more ≤ 1048576 → (n = chpC l (farT t t.far) y more ∧ e = chpE l (farT t t.far) y more) → e = 0 → n < costF l c → m > 0 → False := fun n e g1 g2 ⟨hn, he⟩ e0 h1 h2 => by
      have hn : n = chpC l t y more := hn
      have he : e = chpE l t y more := he
      rcases chpE_cases (m := more) ho ⟨hr.1, by omega, g2⟩ with ⟨_, h3, _⟩ | ⟨d, h3, _, h4⟩
      · omega
      · obtain ⟨d', d1, d2⟩ := chp_need hl h3 h2 g1
        rw [hc] at d1; cases d1
        omega
    exact ⟨rfl, rfl, ⟨he, hc⟩, isD_t, ⟨by omega, ht⟩, isD_l, isD_t, ⟨by omega, by omega, hst⟩, isD_l, isD_t, dC l c, isD_dC, hbc, fun V hV => cond_nd (fun h => (h rfl).elim) (fun _ => cond_nd (fun h => (h (hvc V hV)).elim) (fun _ => ⟨isD_l, isD_t, dC l c, isD_dC, hlc, isD_l, ⟨rfl, rfl, fun _ _ => rfl⟩, ⟨hl, hu8⟩, isD_l, isD_t, dC l (someF l B), isD_own rfl, hlm, cond_d (fun g1 => cond_d (fun g2 => ⟨isD_l, isD_t, fun n e hne => cond_d (fun e0 => cond_d (fun hn => cond_d (fun hm => (hM n e g1 g2 hne e0 hn hm).elim) (fun _ => cond_r hwi (cond_r hfi ⟨isD_l, isD_t (t := farT t (min 1000 (t.far + wh))), fun n e hne => cond_nd (fun h => (h (hF n e hne).1).elim) (fun _ => cond_d (fun h => by have := (hF n e hne).2; omega) (fun _ => cond_d (fun _ => rfl) (fun h0 => cond_r hwi (cond_d (fun h => (h0 h).elim) (fun _ => cond_k hroom (cond_dk (hk1 h0) (cond_r (hck h0) (cond_dk (hk2 h0) (cond_k b1 (cond_k (b2 _) ⟨rchL l (remZ wh (l.length : Int)).toNat, isD_rch (hk3 h0) rfl, isD_t, fun n e hne => cond_dk (hR h0 n e hne).1 (cond_dk (hR h0 n e hne).2 rfl)⟩))))))))))⟩))) (fun _ => cond_r hwi (cond_r hfi ⟨isD_l, isD_t (t := farT t (min 1000 (t.far + wh))), fun n e hne => cond_nd (fun h => (h (hF n e hne).1).elim) (fun _ => cond_d (fun h => by have := (hF n e hne).2; omega) (fun _ => cond_d (fun _ => rfl) (fun h0 => cond_r hwi (cond_d (fun h => (h0 h).elim) (fun _ => cond_k hroom (cond_dk (hk1 h0) (cond_r (hck h0) (cond_dk (hk2 h0) (cond_k b1 (cond_k (b2 _) ⟨rchL l (remZ wh (l.length : Int)).toNat, isD_rch (hk3 h0) rfl, isD_t, fun n e hne => cond_dk (hR h0 n e hne).1 (cond_dk (hR h0 n e hne).2 rfl)⟩))))))))))⟩))) (fun _ => cond_r hwi (cond_r hfi ⟨isD_l, isD_t (t := farT t (min 1000 (t.far + wh))), fun n e hne => cond_nd (fun h => (h (hF n e hne).1).elim) (fun _ => cond_d (fun h => by have := (hF n e hne).2; omega) (fun _ => cond_d (fun _ => rfl) (fun h0 => cond_r hwi (cond_d (fun h => (h0 h).elim) (fun _ => cond_k hroom (cond_dk (hk1 h0) (cond_r (hck h0) (cond_dk (hk2 h0) (cond_k b1 (cond_k (b2 _) ⟨rchL l (remZ wh (l.length : Int)).toNat, isD_rch (hk3 h0) rfl, isD_t, fun n e hne => cond_dk (hR h0 n e hne).1 (cond_dk (hR h0 n e hne).2 rfl)⟩))))))))))⟩))⟩) (fun _ => cond_r hwi (cond_r hfi ⟨isD_l, isD_t (t := farT t (min 1000 (t.far + wh))), fun n e hne => cond_nd (fun h => (h (hF n e hne).1).elim) (fun _ => cond_d (fun h => by have := (hF n e hne).2; omega) (fun _ => cond_d (fun _ => rfl) (fun h0 => cond_r hwi (cond_d (fun h => (h0 h).elim) (fun _ => cond_k hroom (cond_dk (hk1 h0) (cond_r (hck h0) (cond_dk (hk2 h0) (cond_k b1 (cond_k (b2 _) ⟨rchL l (remZ wh (l.length : Int)).toNat, isD_rch (hk3 h0) rfl, isD_t, fun n e hne => cond_dk (hR h0 n e hne).1 (cond_dk (hR h0 n e hne).2 rfl)⟩))))))))))⟩))) (fun _ => cond_r hwi (cond_r hfi ⟨isD_l, isD_t (t := farT t (min 1000 (t.far + wh))), fun n e hne => cond_nd (fun h => (h (hF n e hne).1).elim) (fun _ => cond_d (fun h => by have := (hF n e hne).2; omega) (fun _ => cond_d (fun _ => rfl) (fun h0 => cond_r hwi (cond_d (fun h => (h0 h).elim) (fun _ => cond_k hroom (cond_dk (hk1 h0) (cond_r (hck h0) (cond_dk (hk2 h0) (cond_k b1 (cond_k (b2 _) ⟨rchL l (remZ wh (l.length : Int)).toNat, isD_rch (hk3 h0) rfl, isD_t, fun n e hne => cond_dk (hR h0 n e hne).1 (cond_dk (hR h0 n e hne).2 rfl)⟩))))))))))⟩))⟩))⟩)
  exact ⟨h', hcl⟩

theorem le_s1 (hB : ∀ i, 0 ≤ B.getD i 0 ∧ B.getD i 0 ≤ 255) (hw : 0 ≤ wh ∧ wh ≤ 255) (hg : greatF l t 1000 = false) (he : chpE l t y m = 0) (hc : chpF l t y m = some c) (hlm : lmF l t y m (dC l (someF l B)) = true) : ∃ h', CallsV Try.prog 8 [stD l, .agg (tsL t), I y, I m, I more, .int .u8 wh, byD B] ⟨0, []⟩ (.ret (.bool true)) h' := by
  obtain ⟨ho, hr⟩ := chpE_0 (.inl he)
  have htab : ∀ f T, tabS [grK l t false, chK l t 0 (fun y m => chpF l t y m = some c) (rChp l c), rtY t, rsY l t, smB l B, blY l t, lmK l t true, alT] f = some T → SpOk Try.prog f T := tab_ok _ (fun x hx => by
    simp only [List.mem_cons, List.not_mem_nil, or_false] at hx
    rcases hx with rfl | rfl | rfl | rfl | rfl | rfl | rfl | rfl
    · exact grK_ok l t false
    · exact chK_ok (fun y m h1 h2 => .inr ⟨rfl, _, h2, rfl⟩)
    · exact rtY_ok t
    · exact rsY_ok l t
    · exact smB_ok l B
    · exact blY_ok l t
    · exact lmK_ok l t true
    · exact alT_ok)
  have hall : LoopsOk Try.prog 8 [(0, lLe l t y m more wh B c)] := fun x hx => by
    simp only [List.mem_singleton] at hx
    subst hx
    exact ⟨by kernel_rfl, lLe_ok⟩
  obtain ⟨r, h', rfl, hcl⟩ := of_callN (callL_good hmix htab hall (un := 10) 20) (f := 8) (args := [stD l, .agg (tsL t), I y, I m, I more, .int .u8 wh, byD B]) (h := ⟨0, []⟩) (K := fun r _ => r = .ret (.bool true)) (by
    refine cast (lyo_ev l t y m more wh B c _).symm ⟨isD_l, isD_t, hg, ?_⟩
    refine cond_d (fun _ => rfl) (fun hB0 => ?_)
    obtain ⟨hl, hp, ht, hT1, hT4⟩ := okAll_l ho
    have hl6 := hl.1
    have hst : (decide (l.length ≤ 6) && !anyS l t) = true := by
      have e : okAll l t = (okT t && (decide (l.length ≤ 6) && !anyS l t)) := by unfold okAll; rw [Bool.and_assoc]
      rw [e, Bool.and_eq_true] at ho
      exact ho.2
    have hfar : 0 ≤ t.far ∧ t.far ≤ 1000 := (okT_tB ht).2.2.1
    have hwi : -9223372036854775808 ≤ wh ∧ wh ≤ 9223372036854775807 := by omega
    have hfi : -9223372036854775808 ≤ t.far + wh ∧ t.far + wh ≤ 9223372036854775807 := by omega
    have hroom : roomB (0 + l.length) 56 = true := room6 _ (by omega)
    have hrem : (l.length : Int) ≠ 0 → 0 ≤ remZ wh (l.length : Int) ∧ remZ wh (l.length : Int) < (l.length : Int) := fun h => by
      rw [remZ_nn hw.1]
      exact ⟨Int.emod_nonneg _ h, Int.emod_lt_of_pos _ (by omega)⟩
    have hk3 : (l.length : Int) ≠ 0 → (remZ wh (l.length : Int)).toNat < l.length := fun h => by have := hrem h; omega
    have hk1 : (l.length : Int) ≠ 0 → 0 ≤ remZ wh (l.length : Int) ∧ remZ wh (l.length : Int) < (l.length : Int) := hrem
    have hk2 : (l.length : Int) ≠ 0 → 0 ≤ remZ wh (l.length : Int) ∧ remZ wh (l.length : Int) < ((0 + l.length : Nat) : Int) := fun h => by have := hrem h; omega
    have hck : (l.length : Int) ≠ 0 → -9223372036854775808 ≤ (l.getD (remZ wh (l.length : Int)).toNat k0).casks + 1 ∧ (l.getD (remZ wh (l.length : Int)).toNat k0).casks + 1 ≤ 9223372036854775807 := fun h => by have := (hl.2 _ (hk3 h)).1; omega
    have b1 : ((0 + l.length).beq (0 + l.length) && Nat.ble 1 Try.prog.types[32].size) = true := Bool.and_eq_true_iff.2 ⟨Nat.beq_refl _, by kernel_rfl⟩
    have b2 : ∀ x : Int, ((0 + l.length).beq (0 + l.length) && [I x].all VV.one && belL 0 [I x]) = true := fun x => by rw [show (0 + l.length).beq (0 + l.length) = true from Nat.beq_refl _]; rfl
    have hu8 : u8B B := ⟨by omega, hB⟩
    have hsm : ∀ i, i < l.length → 0 ≤ someF l B i ∧ someF l B i ≤ (l.getD i k0).casks := fun i hi => some_bd hl hu8 hi
    have hsg : ∀ i, l.length ≤ i → someF l B i = 0 := fun i hi => some_ge hi
    obtain ⟨c1, c2, c3⟩ := chp_all hl hc
    have hbc : bldE l t y (dC l c) = 0 := bldE_of ho hr.1 c1
    have hlc : lmF l t y m (dC l c) = true := meets_lm ho hr.1 c1 c2 c3
    have hvc : ∀ V, V = vtF l t (chD (dC l c)) y → V.c = costF l c := fun V h => by rw [h, chD_dC c2]; rfl
    have hF : ∀ n e : Int, (n = chpC l (farT t (min 1000 (t.far + wh))) y m ∧ e = chpE l (farT t (min 1000 (t.far + wh))) y m) → e = 0 ∧ n ≤ costF l c := fun n e ⟨hn, he⟩ => by
      obtain ⟨d, d1, d2⟩ := chp_far hl (f := min 1000 (t.far + wh)) hc (by omega)
      rcases chpE_cases (l := l) (t := farT t (min 1000 (t.far + wh))) (okAll_far ho (by omega)) hr with ⟨h1, _⟩ | ⟨d', h1, h2, h3⟩
      · rw [h1] at d1; cases d1
      · rw [h1] at d1; cases d1
        exact ⟨he.trans h2, by rw [hn, h3]; exact d2⟩
    have hR : (l.length : Int) ≠ 0 → ∀ n e : Int, (n = chpC (rchL l (remZ wh (l.length : Int)).toNat) t y m ∧ e = chpE (rchL l (remZ wh (l.length : Int)).toNat) t y m) → e = 0 ∧ n ≤ costF l c := fun h0 n e ⟨hn, he⟩ => by
      have ho' := rchL_ok (hk3 h0) ho
      obtain ⟨d, d1, d2⟩ := chp_rich hl (okAll_l ho').1 (rchL_like (hk3 h0)) (rchL_more hl (hk3 h0)) hc
      rcases chpE_cases ho' hr with ⟨h1, _⟩ | ⟨d', h1, h2, h3⟩
      · rw [h1] at d1; cases d1
      · rw [h1] at d1; cases d1
        exact ⟨he.trans h2, by rw [hn, h3]; exact d2⟩
    have hM : ∀ n e : Int, more ≥ m → more ≤ 1048576 → (n = chpC l (farT t t.far) y more ∧ e = chpE l (farT t t.far) y more) → e = 0 → n < costF l c → m > 0 → False := fun n e g1 g2 ⟨hn, he⟩ e0 h1 h2 => by
      have hn : n = chpC l t y more := hn
      have he : e = chpE l t y more := he
      rcases chpE_cases (m := more) ho ⟨hr.1, by omega, g2⟩ with ⟨_, h3, _⟩ | ⟨d, h3, _, h4⟩
      · omega
      · obtain ⟨d', d1, d2⟩ := chp_need hl h3 h2 g1
        rw [hc] at d1; cases d1
        omega
    have hv1 : ∀ V, V = vtF l t (chD (dC l (someF l B))) y → V.c = costF l (someF l B) := fun V h => by rw [h, chD_dC hsg]; rfl
    obtain ⟨c', hc', hle0, hlex0⟩ := chp_le hl hsm hsg (lm_meets hsg hlm)
    rw [hc] at hc'
    cases hc'
    have hle : ∀ V, V = vtF l t (chD (dC l (someF l B))) y → costF l c ≤ V.c := fun V h => by rw [hv1 V h]; exact hle0
    have hlex : ∀ V, V = vtF l t (chD (dC l (someF l B))) y → V.c = costF l c → c = someF l B ∨ lexLt l.length c (someF l B) := fun V h h2 => hlex0 (by rw [← hv1 V h]; exact h2.symm)
    exact ⟨rfl, rfl, ⟨he, hc⟩, isD_t, ⟨by omega, ht⟩, isD_l, isD_t, ⟨by omega, by omega, hst⟩, isD_l, isD_t, dC l c, isD_dC, hbc, fun V hV => cond_nd (fun h => (h rfl).elim) (fun _ => cond_nd (fun h => (h (hvc V hV)).elim) (fun _ => ⟨isD_l, isD_t, dC l c, isD_dC, hlc, isD_l, ⟨rfl, rfl, fun _ _ => rfl⟩, ⟨hl, hu8⟩, isD_l, isD_t, dC l (someF l B), isD_own rfl, hlm, isD_l, isD_t, dC l (someF l B), isD_own rfl, bldE_of ho hr.1 hsm, fun V1 hV1 => cond_d (fun h => by have := hle V1 hV1; omega) (fun _ => ⟨V1, ⟨⟨rfl, rfl, rfl, ⟨rfl, rfl, rfl, fun _ _ => rfl⟩, rfl, trivial⟩, rfl, rfl, rfl, rfl, rfl, rfl, rfl, rfl, rfl, rfl, rfl, rfl, rfl, rfl, rfl, rfl, rfl, trivial⟩, ⟨hl6, hlex V1 hV1⟩, fun _ => cond_d (fun g1 => cond_d (fun g2 => ⟨isD_l, isD_t, fun n e hne => cond_d (fun e0 => cond_d (fun hn => cond_d (fun hm => (hM n e g1 g2 hne e0 hn hm).elim) (fun _ => cond_r hwi (cond_r hfi ⟨isD_l, isD_t (t := farT t (min 1000 (t.far + wh))), fun n e hne => cond_nd (fun h => (h (hF n e hne).1).elim) (fun _ => cond_d (fun h => by have := (hF n e hne).2; omega) (fun _ => cond_d (fun _ => rfl) (fun h0 => cond_r hwi (cond_d (fun h => (h0 h).elim) (fun _ => cond_k hroom (cond_dk (hk1 h0) (cond_r (hck h0) (cond_dk (hk2 h0) (cond_k b1 (cond_k (b2 _) ⟨rchL l (remZ wh (l.length : Int)).toNat, isD_rch (hk3 h0) rfl, isD_t, fun n e hne => cond_dk (hR h0 n e hne).1 (cond_dk (hR h0 n e hne).2 rfl)⟩))))))))))⟩))) (fun _ => cond_r hwi (cond_r hfi ⟨isD_l, isD_t (t := farT t (min 1000 (t.far + wh))), fun n e hne => cond_nd (fun h => (h (hF n e hne).1).elim) (fun _ => cond_d (fun h => by have := (hF n e hne).2; omega) (fun _ => cond_d (fun _ => rfl) (fun h0 => cond_r hwi (cond_d (fun h => (h0 h).elim) (fun _ => cond_k hroom (cond_dk (hk1 h0) (cond_r (hck h0) (cond_dk (hk2 h0) (cond_k b1 (cond_k (b2 _) ⟨rchL l (remZ wh (l.length : Int)).toNat, isD_rch (hk3 h0) rfl, isD_t, fun n e hne => cond_dk (hR h0 n e hne).1 (cond_dk (hR h0 n e hne).2 rfl)⟩))))))))))⟩))) (fun _ => cond_r hwi (cond_r hfi ⟨isD_l, isD_t (t := farT t (min 1000 (t.far + wh))), fun n e hne => cond_nd (fun h => (h (hF n e hne).1).elim) (fun _ => cond_d (fun h => by have := (hF n e hne).2; omega) (fun _ => cond_d (fun _ => rfl) (fun h0 => cond_r hwi (cond_d (fun h => (h0 h).elim) (fun _ => cond_k hroom (cond_dk (hk1 h0) (cond_r (hck h0) (cond_dk (hk2 h0) (cond_k b1 (cond_k (b2 _) ⟨rchL l (remZ wh (l.length : Int)).toNat, isD_rch (hk3 h0) rfl, isD_t, fun n e hne => cond_dk (hR h0 n e hne).1 (cond_dk (hR h0 n e hne).2 rfl)⟩))))))))))⟩))⟩) (fun _ => cond_r hwi (cond_r hfi ⟨isD_l, isD_t (t := farT t (min 1000 (t.far + wh))), fun n e hne => cond_nd (fun h => (h (hF n e hne).1).elim) (fun _ => cond_d (fun h => by have := (hF n e hne).2; omega) (fun _ => cond_d (fun _ => rfl) (fun h0 => cond_r hwi (cond_d (fun h => (h0 h).elim) (fun _ => cond_k hroom (cond_dk (hk1 h0) (cond_r (hck h0) (cond_dk (hk2 h0) (cond_k b1 (cond_k (b2 _) ⟨rchL l (remZ wh (l.length : Int)).toNat, isD_rch (hk3 h0) rfl, isD_t, fun n e hne => cond_dk (hR h0 n e hne).1 (cond_dk (hR h0 n e hne).2 rfl)⟩))))))))))⟩))) (fun _ => cond_r hwi (cond_r hfi ⟨isD_l, isD_t (t := farT t (min 1000 (t.far + wh))), fun n e hne => cond_nd (fun h => (h (hF n e hne).1).elim) (fun _ => cond_d (fun h => by have := (hF n e hne).2; omega) (fun _ => cond_d (fun _ => rfl) (fun h0 => cond_r hwi (cond_d (fun h => (h0 h).elim) (fun _ => cond_k hroom (cond_dk (hk1 h0) (cond_r (hck h0) (cond_dk (hk2 h0) (cond_k b1 (cond_k (b2 _) ⟨rchL l (remZ wh (l.length : Int)).toNat, isD_rch (hk3 h0) rfl, isD_t, fun n e hne => cond_dk (hR h0 n e hne).1 (cond_dk (hR h0 n e hne).2 rfl)⟩))))))))))⟩))⟩)⟩))⟩)
  exact ⟨h', hcl⟩

end
end Go.Sx.Bln

/- blend: the law BlendLeast holds. -/

namespace Go.Sx.Bln
open Go Go.Sx Go.Proofs
set_option maxRecDepth 100000

theorem chpE_vals {l : List Stk} {t : Tst} {y m : Int} : chpE l t y m = 1 ∨ chpE l t y m = 2 ∨ chpE l t y m = 4 ∨ (chpE l t y m = 0 ∧ ∃ c, chpF l t y m = some c) := by
  unfold chpE
  split
  · exact .inl rfl
  · split
    · exact .inr (.inl rfl)
    · split
      · exact .inr (.inr (.inl rfl))
      · rename_i h
        refine .inr (.inr (.inr ⟨rfl, ?_⟩))
        cases hc : chpF l t y m with
        | none => exact (h hc).elim
        | some c => exact ⟨c, rfl⟩

theorem least_v {l : List Stk} {t : Tst} {y m more wh : Int} {B : List Int} (hB : ∀ i, 0 ≤ B.getD i 0 ∧ B.getD i 0 ≤ 255) (hw : 0 ≤ wh ∧ wh ≤ 255) : ∃ h', CallsV Try.prog 8 [stD l, .agg (tsL t), I y, I m, I more, .int .u8 wh, byD B] ⟨0, []⟩ (.ret (.bool true)) h' := by
  cases hg : greatF l t 1000 with
  | true => exact le_g hg
  | false =>
    rcases chpE_vals (l := l) (t := t) (y := y) (m := m) with h | h | h | ⟨h, c, hc⟩
    · exact le_1 hg h
    · exact le_2 hg h
    · exact le_no hB hw hg h
    · cases hlm : lmF l t y m (dC l (someF l B)) with
      | true => exact le_s1 hB hw hg h hc hlm
      | false => exact le_s0 hB hw hg h hc hlm
end Go.Sx.Bln
