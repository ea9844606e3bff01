/- stream: Nk1 Nk2 Nk3 Nk4 Nk5, in one text. -/
import Derived.Test.YtnfkbbcbehnnkaaNI
/- nose: how great a panel is, evaluated, evaluated. -/

namespace Go.Sx.Nos
open Go Go.Sx Go.Proofs
set_option maxRecDepth 1000000

def VP (k : Nat) (i : Int) : List VV := [.ptr (.own 3 0), .bool false, I i]
def nsP : List Nat := [0, 1, 2, 3]
theorem great_ev (p : Pn) (c1 c2 c3 : Nat) (m : Int) (Q : VRes → Prop) : callN Try.prog noSpec noL 10 20 0 (.fn 14) [.agg (pnV p c1 c2 c3), I m] (pnH p) (fun r _ => Q r) =
  (bif decide ((↑p.D.length : Int) > (20 : Int)) then
 Q (VRes.ret (VV.bool true))
 else bif decide ((↑p.T.length : Int) > m) then
 bif decide ((↑p.T.length : Int) ≤ (48 : Int)) then
 Q (VRes.ret (VV.bool true))
 else bif decide ((↑p.T.length : Int) > (52 : Int)) then
 Q (VRes.ret (VV.bool true))
 else Q (VRes.ret (VV.bool (decide ((↑p.S.length : Int) > (20 : Int)))))
 else bif decide ((↑p.T.length : Int) > (52 : Int)) then
 Q (VRes.ret (VV.bool true))
 else Q (VRes.ret (VV.bool (decide ((↑p.S.length : Int) > (20 : Int)))))) := by kernel_rfl

theorem alike_ev (p : Pn) (c1 c2 c3 : Nat) (a b m : Int) (Q : VRes → Prop) : callN Try.prog (tabS [difT]) noL 10 20 0 (.fn 29) [.agg (pnV p c1 c2 c3), I a, I b, I m] (pnH p) (fun r _ => Q r) =
  (∃ p_1, pnIs (VH.mk (4) [(3, VB.cells [VV.slice (VA.el 0 [] (0 : Int) 0) p.D.length c1, VV.slice (VA.el 1 [] (0 : Int) 0) p.T.length c2, VV.slice (VA.el 2 [] (0 : Int) 0) p.S.length c3] 26), (0, arD p), (1, arT p), (2, arS p)]) p_1 (VV.slice (VA.el 0 [] (0 : Int) 0) p.D.length c1) (VV.slice (VA.el 1 [] (0 : Int) 0) p.T.length c2) (VV.slice (VA.el 2 [] (0 : Int) 0) p.S.length c3) ∧ (n64 (g0 [a, b] 0) ∧ n64 (g0 [a, b] 1)) ∧ bif !decide (((fun p ns => difF p (g0 ns 0) (g0 ns 1)) p_1 [a, b]).snd.snd = (0 : Int)) then
 Q (VRes.ret (VV.tup [VV.bool false, VV.bool false, I ((fun p ns => difF p (g0 ns 0) (g0 ns 1)) p_1 [a, b]).snd.snd]))
 else bif decide (m < (0 : Int)) then
 Q (VRes.ret (VV.tup [VV.bool false, VV.bool false, I ((fun p ns => difF p (g0 ns 0) (g0 ns 1)) p_1 [a, b]).snd.snd]))
 else bif inK IntKind.i64 ((0 : Int) - m) then
 bif decide ((0 : Int) - m ≤ ((fun p ns => difF p (g0 ns 0) (g0 ns 1)) p_1 [a, b]).fst) then
 bif decide (((fun p ns => difF p (g0 ns 0) (g0 ns 1)) p_1 [a, b]).fst ≤ m) then
 bif inK IntKind.i64 ((0 : Int) - m) then
 Q (VRes.ret (VV.tup [VV.bool (decide (((fun p ns => difF p (g0 ns 0) (g0 ns 1)) p_1 [a, b]).snd.fst ≤ m)), VV.bool (decide (((fun p ns => difF p (g0 ns 0) (g0 ns 1)) p_1 [a, b]).snd.fst ≥ (0 : Int) - m)), I 0]))
 else False
 else Q (VRes.ret (VV.tup [VV.bool (decide (((fun p ns => difF p (g0 ns 0) (g0 ns 1)) p_1 [a, b]).snd.fst ≤ m)), VV.bool false, I 0]))
 else bif decide (((fun p ns => difF p (g0 ns 0) (g0 ns 1)) p_1 [a, b]).fst ≤ m) then
 bif inK IntKind.i64 ((0 : Int) - m) then
 Q (VRes.ret (VV.tup [VV.bool false, VV.bool (decide (((fun p ns => difF p (g0 ns 0) (g0 ns 1)) p_1 [a, b]).snd.fst ≥ (0 : Int) - m)), I 0]))
 else False
 else Q (VRes.ret (VV.tup [VV.bool false, VV.bool false, I 0]))
 else False) := by kernel_rfl

theorem alive_ev (Q : VRes → Prop) : callN Try.prog (tabS [valT, difT, biaT]) noL 10 20 0 (.fn 16) [] ⟨0, []⟩ (fun r _ => Q r) =
  (∃ p, pnIs (VH.mk (5) [(4, VB.cells [VV.sl (1) 2, VV.sl (2) 4, VV.sl (3) 1] 26), (4, VB.cells [VV.nils, VV.nils, VV.nils] 26), (0, VB.cells [VV.sl (1) 2, VV.sl (2) 4, VV.sl (3) 1] 26), (3, VB.vec 1 (fun j => List.take (3) (List.drop (j * (3)) [I 0, I 480, I 490])) (3) 36), (2, VB.vec 4 (fun j => List.take (5) (List.drop (j * (5)) [I 0, I 0, I 0, I 500, I 20, I 0, I 1, I 0, I 530, I 20, I 1, I 0, I 3, I 700, I 5, I 1, I 1, I 5, I 735, I 5])) (5) 32), (1, VB.vec 2 (fun j => List.take (1) (List.drop (j * (1)) [I 0, I 10])) (1) 3), (0, VB.cells [VV.nils, VV.nils, VV.nils] 26)]) p (VV.sl (1) 2) (VV.sl (2) 4) (VV.sl (3) 1) ∧ n64 (g0 [(1 : Int)] 0) ∧ ∃ p_1, pnIs (VH.mk (6) [(5, VB.cells [I ((fun p ns => valF p (g0 ns 0)) p [(1 : Int)]).fst, I ((fun p ns => valF p (g0 ns 0)) p [(1 : Int)]).snd.fst] 34), (5, VB.cells [I 0, I 0] 34), (4, VB.cells [VV.sl (1) 2, VV.sl (2) 4, VV.sl (3) 1] 26), (4, VB.cells [VV.nils, VV.nils, VV.nils] 26), (0, VB.cells [VV.sl (1) 2, VV.sl (2) 4, VV.sl (3) 1] 26), (3, VB.vec 1 (fun j => List.take (3) (List.drop (j * (3)) [I 0, I 480, I 490])) (3) 36), (2, VB.vec 4 (fun j => List.take (5) (List.drop (j * (5)) [I 0, I 0, I 0, I 500, I 20, I 0, I 1, I 0, I 530, I 20, I 1, I 0, I 3, I 700, I 5, I 1, I 1, I 5, I 735, I 5])) (5) 32), (1, VB.vec 2 (fun j => List.take (1) (List.drop (j * (1)) [I 0, I 10])) (1) 3), (0, VB.cells [VV.nils, VV.nils, VV.nils] 26)]) p_1 (VV.sl (1) 2) (VV.sl (2) 4) (VV.sl (3) 1) ∧ (n64 (g0 [(1 : Int), (0 : Int)] 0) ∧ n64 (g0 [(1 : Int), (0 : Int)] 1)) ∧ ∃ p_2, pnIs (VH.mk (7) [(6, VB.cells [I ((fun p ns => difF p (g0 ns 0) (g0 ns 1)) p_1 [(1 : Int), (0 : Int)]).fst, I ((fun p ns => difF p (g0 ns 0) (g0 ns 1)) p_1 [(1 : Int), (0 : Int)]).snd.fst] 34), (6, VB.cells [I 0, I 0] 34), (5, VB.cells [I ((fun p ns => valF p (g0 ns 0)) p [(1 : Int)]).fst, I ((fun p ns => valF p (g0 ns 0)) p [(1 : Int)]).snd.fst] 34), (5, VB.cells [I 0, I 0] 34), (4, VB.cells [VV.sl (1) 2, VV.sl (2) 4, VV.sl (3) 1] 26), (4, VB.cells [VV.nils, VV.nils, VV.nils] 26), (0, VB.cells [VV.sl (1) 2, VV.sl (2) 4, VV.sl (3) 1] 26), (3, VB.vec 1 (fun j => List.take (3) (List.drop (j * (3)) [I 0, I 480, I 490])) (3) 36), (2, VB.vec 4 (fun j => List.take (5) (List.drop (j * (5)) [I 0, I 0, I 0, I 500, I 20, I 0, I 1, I 0, I 530, I 20, I 1, I 0, I 3, I 700, I 5, I 1, I 1, I 5, I 735, I 5])) (5) 32), (1, VB.vec 2 (fun j => List.take (1) (List.drop (j * (1)) [I 0, I 10])) (1) 3), (0, VB.cells [VV.nils, VV.nils, VV.nils] 26)]) p_2 (VV.sl (1) 2) (VV.sl (2) 4) (VV.sl (3) 1) ∧ True ∧ bif decide (((fun p ns => valF p (g0 ns 0)) p [(1 : Int)]).fst = (485 : Int)) && (decide (((fun p ns => valF p (g0 ns 0)) p [(1 : Int)]).snd.fst = (555 : Int)) && true) then
 bif decide (((fun p ns => valF p (g0 ns 0)) p [(1 : Int)]).snd.snd = (0 : Int)) then
 bif decide (((fun p ns => difF p (g0 ns 0) (g0 ns 1)) p_1 [(1 : Int), (0 : Int)]).fst = (5 : Int)) && (decide (((fun p ns => difF p (g0 ns 0) (g0 ns 1)) p_1 [(1 : Int), (0 : Int)]).snd.fst = (65 : Int)) && true) then
 bif decide (((fun p ns => difF p (g0 ns 0) (g0 ns 1)) p_1 [(1 : Int), (0 : Int)]).snd.snd = (0 : Int)) then
 bif decide (((fun p ns => biaF p (g0 ns 0) (g0 ns 1)) p_2 [(1 : Int), (5 : Int)]).fst = (185 : Int)) && (decide (((fun p ns => biaF p (g0 ns 0) (g0 ns 1)) p_2 [(1 : Int), (5 : Int)]).snd.fst = (245 : Int)) && true) then
 Q (VRes.ret (VV.bool (decide (((fun p ns => biaF p (g0 ns 0) (g0 ns 1)) p_2 [(1 : Int), (5 : Int)]).snd.snd = (0 : Int)))))
 else Q (VRes.ret (VV.bool false))
 else Q (VRes.ret (VV.bool false))
 else Q (VRes.ret (VV.bool false))
 else Q (VRes.ret (VV.bool false))
 else Q (VRes.ret (VV.bool false))) := by kernel_rfl

theorem p0_ev (p : Pn) (c1 c2 c3 : Nat) (i : Int) (X : VEx → List VV → List VB → Prop) : codeE Try.prog (callN Try.prog noSpec noL 10 20) (fun _ => none) true 10 119 0 (loopB 0 (bodyOf Try.prog 15)) ([1, 2, 3].zip (VP 0 i)) ⟨4, nsP.zip (BP p c1 c2 c3)⟩ (obs 4 [1, 2, 3] nsP X) =
  (bif decide (i < (↑p.D.length : Int)) then
 bif decide ((0 : Int) ≤ i ∧ i < (↑p.D.length : Int)) then
 (([] : List Int) = [] ∧ (0 : Int) ≤ (0 : Int) + i ∧ (0 : Int) + i < (↑p.D.length : Int)) ∧ bif decide ((0 : Int) ≤ p.D.getD ((0 : Int) + i).toNat (0 : Int)) then
 bif !decide (p.D.getD ((0 : Int) + i).toNat (0 : Int) ≤ (1000 : Int)) then
 X VEx.ret [VV.ptr (VA.own 3 0), VV.bool false, I i] [arD p, arT p, arS p, pnB p c1 c2 c3]
 else bif inK IntKind.i64 (i + (1 : Int)) then
 X VEx.normal [VV.ptr (VA.own 3 0), VV.bool false, I (i + (1 : Int))] [arD p, arT p, arS p, pnB p c1 c2 c3]
 else False
 else X VEx.ret [VV.ptr (VA.own 3 0), VV.bool false, I i] [arD p, arT p, arS p, pnB p c1 c2 c3]
 else False
 else X (VEx.exit 0) [VV.ptr (VA.own 3 0), VV.bool false, I i] [arD p, arT p, arS p, pnB p c1 c2 c3]) := by kernel_rfl

theorem p2_ev (p : Pn) (c1 c2 c3 : Nat) (i : Int) (X : VEx → List VV → List VB → Prop) : codeE Try.prog (callN Try.prog noSpec noL 10 20) (fun _ => none) true 10 119 0 (loopB 2 (bodyOf Try.prog 15)) ([1, 2, 4].zip (VP 2 i)) ⟨4, nsP.zip (BP p c1 c2 c3)⟩ (obs 4 [1, 2, 4] nsP X) =
  (bif decide (i < (↑p.T.length : Int)) then
 bif decide ((0 : Int) ≤ i ∧ i < (↑p.T.length : Int)) then
 (([] : List Int) = [] ∧ (0 : Int) ≤ (0 : Int) + i ∧ (0 : Int) + i < (↑p.T.length : Int)) ∧ bif inK IntKind.i64 ((↑p.D.length : Int) - (1 : Int)) then
 bif decide ((0 : Int) ≤ (getI p i).j) then
 bif !decide ((getI p i).j ≤ (↑p.D.length : Int) - (1 : Int)) then
 X VEx.ret [VV.ptr (VA.own 3 0), VV.bool false, I i] [arD p, arT p, arS p, pnB p c1 c2 c3]
 else bif decide ((0 : Int) ≤ (getI p i).s) then
 bif !decide ((getI p i).s ≤ (15 : Int)) then
 X VEx.ret [VV.ptr (VA.own 3 0), VV.bool false, I i] [arD p, arT p, arS p, pnB p c1 c2 c3]
 else bif decide ((0 : Int) ≤ (getI p i).p) then
 bif !decide ((getI p i).p ≤ (1000 : Int)) then
 X VEx.ret [VV.ptr (VA.own 3 0), VV.bool false, I i] [arD p, arT p, arS p, pnB p c1 c2 c3]
 else bif decide ((-100000 : Int) ≤ (getI p i).c) then
 bif !decide ((getI p i).c ≤ (100000 : Int)) then
 X VEx.ret [VV.ptr (VA.own 3 0), VV.bool false, I i] [arD p, arT p, arS p, pnB p c1 c2 c3]
 else bif decide ((0 : Int) ≤ (getI p i).o) then
 bif !decide ((getI p i).o ≤ (10000 : Int)) then
 X VEx.ret [VV.ptr (VA.own 3 0), VV.bool false, I i] [arD p, arT p, arS p, pnB p c1 c2 c3]
 else bif inK IntKind.i64 (i + (1 : Int)) then
 X VEx.normal [VV.ptr (VA.own 3 0), VV.bool false, I (i + (1 : Int))] [arD p, arT p, arS p, pnB p c1 c2 c3]
 else False
 else X VEx.ret [VV.ptr (VA.own 3 0), VV.bool false, I i] [arD p, arT p, arS p, pnB p c1 c2 c3]
 else X VEx.ret [VV.ptr (VA.own 3 0), VV.bool false, I i] [arD p, arT p, arS p, pnB p c1 c2 c3]
 else X VEx.ret [VV.ptr (VA.own 3 0), VV.bool false, I i] [arD p, arT p, arS p, pnB p c1 c2 c3]
 else X VEx.ret [VV.ptr (VA.own 3 0), VV.bool false, I i] [arD p, arT p, arS p, pnB p c1 c2 c3]
 else X VEx.ret [VV.ptr (VA.own 3 0), VV.bool false, I i] [arD p, arT p, arS p, pnB p c1 c2 c3]
 else False
 else False
 else X (VEx.exit 2) [VV.ptr (VA.own 3 0), VV.bool false, I i] [arD p, arT p, arS p, pnB p c1 c2 c3]) := by kernel_rfl

theorem p4_ev (p : Pn) (c1 c2 c3 : Nat) (i : Int) (X : VEx → List VV → List VB → Prop) : codeE Try.prog (callN Try.prog noSpec noL 10 20) (fun _ => none) true 10 119 0 (loopB 4 (bodyOf Try.prog 15)) ([1, 2, 6].zip (VP 4 i)) ⟨4, nsP.zip (BP p c1 c2 c3)⟩ (obs 4 [1, 2, 6] nsP X) =
  (bif decide (i < (↑p.S.length : Int)) then
 bif decide ((0 : Int) ≤ i ∧ i < (↑p.S.length : Int)) then
 (([] : List Int) = [] ∧ (0 : Int) ≤ (0 : Int) + i ∧ (0 : Int) + i < (↑p.S.length : Int)) ∧ bif decide ((0 : Int) ≤ (p.S.getD ((0 : Int) + i).toNat s0).s) then
 bif !decide ((p.S.getD ((0 : Int) + i).toNat s0).s ≤ (15 : Int)) then
 X VEx.ret [VV.ptr (VA.own 3 0), VV.bool false, I i] [arD p, arT p, arS p, pnB p c1 c2 c3]
 else bif decide ((p.S.getD ((0 : Int) + i).toNat s0).lo < (-100000 : Int)) then
 X VEx.ret [VV.ptr (VA.own 3 0), VV.bool false, I i] [arD p, arT p, arS p, pnB p c1 c2 c3]
 else bif decide ((p.S.getD ((0 : Int) + i).toNat s0).lo > (p.S.getD ((0 : Int) + i).toNat s0).hi) then
 X VEx.ret [VV.ptr (VA.own 3 0), VV.bool false, I i] [arD p, arT p, arS p, pnB p c1 c2 c3]
 else bif decide ((p.S.getD ((0 : Int) + i).toNat s0).hi > (100000 : Int)) then
 X VEx.ret [VV.ptr (VA.own 3 0), VV.bool false, I i] [arD p, arT p, arS p, pnB p c1 c2 c3]
 else bif inK IntKind.i64 (i + (1 : Int)) then
 X VEx.normal [VV.ptr (VA.own 3 0), VV.bool false, I (i + (1 : Int))] [arD p, arT p, arS p, pnB p c1 c2 c3]
 else False
 else X VEx.ret [VV.ptr (VA.own 3 0), VV.bool false, I i] [arD p, arT p, arS p, pnB p c1 c2 c3]
 else False
 else X (VEx.exit 4) [VV.ptr (VA.own 3 0), VV.bool false, I i] [arD p, arT p, arS p, pnB p c1 c2 c3]) := by kernel_rfl


end Go.Sx.Nos

/- nose: the document's test of a panel; how great one is. -/

namespace Go.Sx.Nos
open Go Go.Sx Go.Proofs
set_option maxRecDepth 1000000

def okD (x : Int) : Prop := 0 ≤ x ∧ x ≤ 1000
def okT (p : Pn) (t : Ts) : Prop := (0 ≤ t.j ∧ t.j < p.D.length) ∧ (0 ≤ t.s ∧ t.s ≤ 15) ∧ (0 ≤ t.p ∧ t.p ≤ 1000) ∧ (-100000 ≤ t.c ∧ t.c ≤ 100000) ∧ (0 ≤ t.o ∧ t.o ≤ 10000)
def okS (s : Sd) : Prop := (0 ≤ s.s ∧ s.s ≤ 15) ∧ -100000 ≤ s.lo ∧ s.lo ≤ s.hi ∧ s.hi ≤ 100000

section
variable {p : Pn} {c1 c2 c3 : Nat}

def lPk (p : Pn) (c1 c2 c3 : Nat) (m : Nat) (n : Nat) (ok : Nat → Prop) : LT := fun lock tt h K =>
  FitP lock h tt ⟨4, nsP.zip (BP p c1 c2 c3)⟩ ([1, 2, m].zip (VP 0 0)) ∧ (n ≤ 100 ∧ p.D.length ≤ 100) ∧ ((∀ j, j < n → ok j) → K .normal ([1, 2, m].zip (VP 0 n)) ⟨4, nsP.zip (BP p c1 c2 c3)⟩) ∧
    ((¬ ∀ j, j < n → ok j) → ∀ k : Nat, K .ret ([1, 2, m].zip (VP 0 k)) ⟨4, nsP.zip (BP p c1 c2 c3)⟩)

def oPk (p : Pn) (c1 c2 c3 : Nat) (id : Nat) (n : Nat) (ok : Nat → Prop) (_ : Nat) (e : VEx) (vs : List VV) (bs : List VB) : Prop :=
  (e = .exit id ∧ (∀ j, j < n → ok j) ∧ vs = VP 0 n ∧ bs = BP p c1 c2 c3) ∨ (e = .ret ∧ (¬ ∀ j, j < n → ok j) ∧ (∃ k : Nat, vs = VP 0 k) ∧ bs = BP p c1 c2 c3)

abbrev rPk (p : Pn) (c1 c2 c3 : Nat) (id n : Nat) (ok : Nat → Prop) := RoundQ (fun i : Nat => VP 0 i) (fun _ => BP p c1 c2 c3) (fun i => i ≤ n ∧ ∀ j, j < i → ok j) (fun i => n - i) (oPk p c1 c2 c3 id n ok)

theorem rPk_no {id n i : Nat} {ok : Nat → Prop} (h : i < n) (hn : ¬ ok i) : rPk p c1 c2 c3 id n ok i .ret (VP 0 i) (BP p c1 c2 c3) :=
  .inr ⟨rfl, fun hh => hn (hh i h), ⟨i, rfl⟩, rfl⟩

theorem rPk_go {id n i : Nat} {ok : Nat → Prop} (h : i < n) (hg : ∀ j, j < i → ok j) (ho : ok i) : rPk p c1 c2 c3 id n ok i .normal (VP 0 (i + 1)) (BP p c1 c2 c3) :=
  ⟨i + 1, ⟨by omega, fun j hj => by
    by_cases hji : j = i
    · rw [hji]; exact ho
    · exact hg j (by omega)⟩, by dsimp only; omega, vst (V := VP 0) i, fitBs_refl _, fun _ _ _ ho => ho⟩

theorem rPk_end {id n : Nat} {ok : Nat → Prop} (hg : ∀ j, j < n → ok j) : rPk p c1 c2 c3 id n ok n (.exit id) (VP 0 n) (BP p c1 c2 c3) :=
  .inl ⟨rfl, hg, rfl, rfl⟩

theorem exitOf_self (id : Nat) : exitOf id (.exit id) = .normal := by simp [exitOf]

theorem lPk_of {id n m : Nat} {ok : Nat → Prop} (hr : n ≤ 100 ∧ p.D.length ≤ 100 → ∀ i : Nat, i ≤ n → (∀ j, j < i → ok j) → codeE Try.prog (callN Try.prog noSpec noL 10 20) (fun _ => none) true 10 119 0 (loopB id (bodyOf Try.prog 15)) ([1, 2, m].zip (VP 0 i)) ⟨4, nsP.zip (BP p c1 c2 c3)⟩ (obs 4 [1, 2, m] nsP (rPk p c1 c2 c3 id n ok i))) :
    LSound Try.prog true (.block id (.loop (loopB id (bodyOf Try.prog 15)))) 119 (lPk p c1 c2 c3 m n ok) := by
  by_cases hn : n ≤ 100 ∧ p.D.length ≤ 100
  · refine loop_row hmix good0 (un := 10) (ds := [1, 2, m]) (ns := nsP) (nx := 4) (fun i : Nat => VP 0 i) (fun _ => BP p c1 c2 c3) (fun i => i ≤ n ∧ ∀ j, j < i → ok j) (fun i => n - i) (oPk p c1 c2 c3 id n ok) noL_ok ?_ ?_
    · rintro i ⟨hi, hg⟩
      exact hr hn i hi hg
    · rintro lock tt h K ⟨hf, _, h1, h2⟩
      refine ⟨0, hf, ⟨Nat.zero_le _, fun j hj => by omega⟩, ?_⟩
      rintro x vs bs (⟨rfl, he, rfl, rfl⟩ | ⟨rfl, he, ⟨k, rfl⟩, rfl⟩)
      · rw [exitOf_self]; exact h1 he
      · exact h2 he k
  · rintro lock tt h K ⟨_, hc, _⟩
    exact (hn hc).elim

theorem lP0_ok : LSound Try.prog true (.block 0 (.loop (loopB 0 (bodyOf Try.prog 15)))) 119 (lPk p c1 c2 c3 3 p.D.length fun j => okD (p.D.getD j 0)) :=
  lPk_of fun hn i hi hg => by
    refine cast (p0_ev p c1 c2 c3 i _).symm ?_
    by_cases h : i < p.D.length
    · refine cond_dk (by omega) (cond_dk ⟨by omega, by omega⟩ ⟨⟨rfl, by omega, by omega⟩, ?_⟩)
      rw [zero_toNat]
      refine cond_d (fun a => cond_nd (fun b => rPk_no h fun ho => b ho.2) (fun b => cond_r (by omega) (rPk_go h hg ⟨a, b⟩))) (fun a => rPk_no h fun ho => a ho.1)
    · obtain rfl : i = p.D.length := by omega
      exact cond_d (fun h => by omega) (fun _ => rPk_end hg)

theorem lP2_ok : LSound Try.prog true (.block 2 (.loop (loopB 2 (bodyOf Try.prog 15)))) 119 (lPk p c1 c2 c3 4 p.T.length fun j => okT p (p.T.getD j t0)) :=
  lPk_of fun hn i hi hg => by
    refine cast (p2_ev p c1 c2 c3 i _).symm ?_
    have hgi : getI p i = p.T.getD i t0 := by unfold getI; rw [zero_toNat]
    rw [hgi]
    by_cases h : i < p.T.length
    · refine cond_dk (by omega) (cond_dk ⟨by omega, by omega⟩ ⟨⟨rfl, by omega, by omega⟩, cond_r (by omega) ?_⟩)
      refine cond_d (fun a0 => cond_nd (fun a1 => ?_) (fun a1 => cond_d (fun b0 => cond_nd (fun b1 => ?_) (fun b1 => cond_d (fun d0 => cond_nd (fun d1 => ?_) (fun d1 => cond_d (fun e0 => cond_nd (fun e1 => ?_) (fun e1 => cond_d (fun f0 => cond_nd (fun f1 => ?_) (fun f1 => cond_r (by omega) ?_)) (fun f0 => ?_))) (fun e0 => ?_))) (fun d0 => ?_))) (fun b0 => ?_))) (fun a0 => ?_)
      all_goals first | exact rPk_no h (fun ho => by unfold okT at ho; omega) | exact rPk_go h hg ⟨⟨a0, by omega⟩, ⟨b0, b1⟩, ⟨d0, d1⟩, ⟨e0, e1⟩, ⟨f0, f1⟩⟩
    · obtain rfl : i = p.T.length := by omega
      exact cond_d (fun h => by omega) (fun _ => rPk_end hg)

theorem lP4_ok : LSound Try.prog true (.block 4 (.loop (loopB 4 (bodyOf Try.prog 15)))) 119 (lPk p c1 c2 c3 6 p.S.length fun j => okS (p.S.getD j s0)) :=
  lPk_of fun hn i hi hg => by
    refine cast (p4_ev p c1 c2 c3 i _).symm ?_
    rw [zero_toNat]
    by_cases h : i < p.S.length
    · refine cond_dk (by omega) (cond_dk ⟨by omega, by omega⟩ ⟨⟨rfl, by omega, by omega⟩, ?_⟩)
      refine cond_d (fun a0 => cond_nd (fun a1 => ?_) (fun a1 => cond_d (fun b0 => ?_) (fun b0 => cond_d (fun d0 => ?_) (fun d0 => cond_d (fun e0 => ?_) (fun e0 => cond_r (by omega) ?_))))) (fun a0 => ?_)
      all_goals first | exact rPk_no h (fun ho => by unfold okS at ho; omega) | exact rPk_go h hg ⟨⟨a0, a1⟩, by omega, by omega, by omega⟩
    · obtain rfl : i = p.S.length := by omega
      exact cond_d (fun h => by omega) (fun _ => rPk_end hg)

def pkL (p : Pn) (c1 c2 c3 : Nat) : List (Nat × LT) := [(0, lPk p c1 c2 c3 3 p.D.length fun j => okD (p.D.getD j 0)), (2, lPk p c1 c2 c3 4 p.T.length fun j => okT p (p.T.getD j t0)), (4, lPk p c1 c2 c3 6 p.S.length fun j => okS (p.S.getD j s0))]

theorem pkL_ok : LoopsOk Try.prog 15 (pkL p c1 c2 c3) := by
  intro x hx
  simp only [pkL, List.mem_cons, List.not_mem_nil, or_false] at hx
  rcases hx with rfl | rfl | rfl
  · exact ⟨by kernel_rfl, lP0_ok⟩
  · exact ⟨by kernel_rfl, lP2_ok⟩
  · exact ⟨by kernel_rfl, lP4_ok⟩

def greatB (p : Pn) (m : Int) : Bool := decide ((p.D.length : Int) > 20 ∨ ((p.T.length : Int) > m ∧ (p.T.length : Int) ≤ 48) ∨ (p.T.length : Int) > 52 ∨ (p.S.length : Int) > 20)

theorem great_v (p : Pn) (c1 c2 c3 : Nat) (m : Int) : ∃ h', CallsV Try.prog 14 [.agg (pnV p c1 c2 c3), I m] (pnH p) (.ret (.bool (greatB p m))) h' := by
  obtain ⟨r, h', rfl, hc⟩ := of_callN good0 (f := 14) (args := [.agg (pnV p c1 c2 c3), I m]) (h := pnH p) (K := fun r _ => r = .ret (.bool (greatB p m)))
    (by
      refine cast (great_ev p c1 c2 c3 m _).symm ?_
      have tt : ((p.D.length : Int) > 20 ∨ ((p.T.length : Int) > m ∧ (p.T.length : Int) ≤ 48) ∨ (p.T.length : Int) > 52 ∨ (p.S.length : Int) > 20) → VRes.ret (VV.bool true) = .ret (.bool (greatB p m)) := fun h => by unfold greatB; rw [decide_eq_true h]
      have ss : ¬ (p.D.length : Int) > 20 → ¬ ((p.T.length : Int) > m ∧ (p.T.length : Int) ≤ 48) → ¬ (p.T.length : Int) > 52 → VRes.ret (VV.bool (decide ((p.S.length : Int) > 20))) = .ret (.bool (greatB p m)) := fun h1 h2 h3 => by
        unfold greatB
        congr 2
        rw [decide_eq_decide]
        omega
      refine cond_d (fun a => tt (.inl a)) (fun a => cond_d (fun b => cond_d (fun d => tt (.inr (.inl ⟨b, d⟩))) (fun d => cond_d (fun e => tt (.inr (.inr (.inl e)))) (fun e => ss a (fun h => d h.2) e))) (fun b => cond_d (fun e => tt (.inr (.inr (.inl e)))) (fun e => ss a (fun h => b h.1) e))))
  exact ⟨h', hc⟩
end
def boV (b : Bool) : VV := .bool b
noncomputable def greatT := shT 14 1 boV (fun _ _ => True) fun p ns => greatB p (g0 ns 0)
theorem greatT_ok : SpOk Try.prog greatT.1 greatT.2 := shT_ok (fun _ => rfl) fun p ns hn _ c1 c2 c3 => by
  match ns, hn with
  | [m], _ => exact great_v p c1 c2 c3 m
end Go.Sx.Nos

/- nose: the test of a panel, evaluated, evaluated. -/

namespace Go.Sx.Nos
open Go Go.Sx Go.Proofs
set_option maxRecDepth 1000000

theorem ref_ev (p : Pn) (c1 c2 c3 : Nat) (Q : VRes → Prop) : callN Try.prog noSpec (at2 15 70 (pkL p c1 c2 c3) []) 10 20 0 (.fn 15) [.agg (pnV p c1 c2 c3)] (pnH p) (fun r _ => Q r) =
  (bif decide ((↑p.D.length : Int) > (8 : Int)) then
 Q (VRes.ret (VV.bool false))
 else bif decide ((↑p.T.length : Int) > (48 : Int)) then
 Q (VRes.ret (VV.bool false))
 else bif decide ((↑p.S.length : Int) > (16 : Int)) then
 Q (VRes.ret (VV.bool false))
 else FitP 0 (VH.mk 4 (nsP.zip (BP p c1 c2 c3))) ([1, 2, 3].zip (VP 0 (0 : Int))) (VH.mk 4 (nsP.zip (BP p c1 c2 c3))) ([1, 2, 3].zip (VP 0 (0 : Int))) ∧ (p.D.length ≤ 100 ∧ p.D.length ≤ 100) ∧ ((∀ (j : Nat), j < p.D.length → (fun j => okD (p.D.getD j (0 : Int))) j) → FitP 0 (VH.mk 4 (nsP.zip (BP p c1 c2 c3))) ([1, 2, 4].zip (VP 0 (0 : Int))) (VH.mk 4 (nsP.zip (BP p c1 c2 c3))) ([1, 2, 4].zip (VP 0 (0 : Int))) ∧ (p.T.length ≤ 100 ∧ p.D.length ≤ 100) ∧ ((∀ (j : Nat), j < p.T.length → (fun j => okT p (p.T.getD j t0)) j) → FitP 0 (VH.mk 4 (nsP.zip (BP p c1 c2 c3))) ([1, 2, 6].zip (VP 0 (0 : Int))) (VH.mk 4 (nsP.zip (BP p c1 c2 c3))) ([1, 2, 6].zip (VP 0 (0 : Int))) ∧ (p.S.length ≤ 100 ∧ p.D.length ≤ 100) ∧ ((∀ (j : Nat), j < p.S.length → (fun j => okS (p.S.getD j s0)) j) → Q (VRes.ret (VV.bool true))) ∧ ((¬∀ (j : Nat), j < p.S.length → (fun j => okS (p.S.getD j s0)) j) → ∀ (k : Nat), Q (VRes.ret (VV.bool false)))) ∧ ((¬∀ (j : Nat), j < p.T.length → (fun j => okT p (p.T.getD j t0)) j) → ∀ (k : Nat), Q (VRes.ret (VV.bool false)))) ∧ ((¬∀ (j : Nat), j < p.D.length → (fun j => okD (p.D.getD j (0 : Int))) j) → ∀ (k : Nat), Q (VRes.ret (VV.bool false)))) := by kernel_rfl


end Go.Sx.Nos

/- nose: what a span means. -/

namespace Go.Sx.Nos
open Go Go.Sx Go.Proofs
set_option maxRecDepth 1000000

/-- A difference can be v. -/
def Df (p : Pn) (a b : Nd) (v : Int) : Prop := ∃ x, Sol p x ∧ x a - x b = v

section
variable {p q : Pn} {a b a' b' : Nd}

theorem mx_df {m : Int} : Mx p a b m ↔ (∀ v, Df p a b v → v ≤ m) ∧ Df p a b m :=
  ⟨fun ⟨h1, h2⟩ => ⟨fun _ ⟨x, hx, hv⟩ => hv ▸ h1 x hx, h2⟩, fun ⟨h1, h2⟩ => ⟨fun x hx => h1 _ ⟨x, hx, rfl⟩, h2⟩⟩

theorem un_df : Un p a b ↔ ∀ K : Int, ∃ v, Df p a b v ∧ K ≤ v :=
  ⟨fun h K => (h K).elim fun x ⟨hx, hk⟩ => ⟨_, ⟨x, hx, rfl⟩, hk⟩, fun h K => (h K).elim fun _ ⟨⟨x, hx, hv⟩, hk⟩ => ⟨x, hx, hv ▸ hk⟩⟩

theorem df_neg {v : Int} : Df p b a v ↔ Df p a b (-v) :=
  ⟨fun ⟨x, hx, h⟩ => ⟨x, hx, by omega⟩, fun ⟨x, hx, h⟩ => ⟨x, hx, by omega⟩⟩

theorem far_cases (hp : PnOk p) (hf : fitF p) (ha : thP p a) (hb : thP p b) : (farAB p a b = WW ∧ Un p a b) ∨ (farAB p a b ≠ WW ∧ Mx p a b (farAB p a b) ∧ -66000000 ≤ farAB p a b ∧ farAB p a b ≤ 66000000) := by
  have ma := (mem_no hp a).2 ha
  have mb := (mem_no hp b).2 hb
  by_cases h : farAB p a b = WW
  · exact .inl ⟨h, far_un hp hf ma mb h⟩
  · exact .inr ⟨h, far_mx hp hf ma mb h⟩

/-- What the span of a difference means. -/
theorem btF_cases (p : Pn) (a b : Nd) : (¬ PnOk p ∧ btF p a b = (0, 0, 1)) ∨ (PnOk p ∧ ¬ (thP p a ∧ thP p b) ∧ btF p a b = (0, 0, 4)) ∨ (PnOk p ∧ (thP p a ∧ thP p b) ∧ ¬ fitF p ∧ btF p a b = (0, 0, 6)) ∨
    (PnOk p ∧ (thP p a ∧ thP p b) ∧ fitF p ∧ (Un p a b ∨ Un p b a) ∧ btF p a b = (0, 0, 12)) ∨
    (PnOk p ∧ (thP p a ∧ thP p b) ∧ fitF p ∧ ∃ lo hi : Int, Mx p a b hi ∧ Mx p b a (-lo) ∧ -66000000 ≤ lo ∧ lo ≤ hi ∧ hi ≤ 66000000 ∧ btF p a b = (lo, hi, 0)) := by
  unfold btF
  by_cases hp : PnOk p
  · by_cases ht : thP p a ∧ thP p b
    · by_cases hf : fitF p
      · right; right; right
        rw [if_pos hp, if_pos ht, if_pos hf]
        rcases far_cases hp hf ht.1 ht.2 with ⟨h1, h2⟩ | ⟨h1, h2, h3⟩
        · exact .inl ⟨hp, ht, hf, .inl h2, by rw [if_pos (.inl h1)]⟩
        · rcases far_cases hp hf ht.2 ht.1 with ⟨g1, g2⟩ | ⟨g1, g2, g3⟩
          · exact .inl ⟨hp, ht, hf, .inr g2, by rw [if_pos (.inr g1)]⟩
          · refine .inr ⟨hp, ht, hf, 0 - farAB p b a, farAB p a b, h2, by rwa [show -(0 - farAB p b a) = farAB p b a by omega], by omega, ?_, by omega, by rw [if_neg (fun h => h.elim h1 g1)]⟩
            obtain ⟨x, hx, hv⟩ := h2.2
            have := g2.1 x hx
            omega
      · exact .inr (.inr (.inl ⟨hp, ht, hf, by rw [if_pos hp, if_pos ht, if_neg hf]⟩))
    · exact .inr (.inl ⟨hp, ht, by rw [if_pos hp, if_neg ht]⟩)
  · exact .inl ⟨hp, by rw [if_neg hp]⟩

theorem btF_ok {lo hi : Int} (hp : PnOk p) (ht : thP p a ∧ thP p b) (hf : fitF p) (h1 : Mx p a b hi) (h2 : Mx p b a (-lo)) : btF p a b = (lo, hi, 0) := by
  rcases btF_cases p a b with h | h | h | h | ⟨_, _, _, lo', hi', g1, g2, _, _, _, g3⟩
  · exact absurd hp h.1
  · exact absurd ht h.2.1
  · exact absurd hf h.2.2.1
  · rcases h.2.2.2.1 with h | h
    · exact (h1.not_un h).elim
    · exact (h2.not_un h).elim
  · have e1 := h1.uniq g1
    have e2 := h2.uniq g2
    rw [g3, e1, show lo = lo' by omega]

/-- Two panels whose differences are the same, but for s. -/
theorem btF_shift {s : Int} (hp : PnOk p) (hq : PnOk q) (ht : (thP p a ∧ thP p b) ↔ (thP q a' ∧ thP q b')) (hd : ∀ v, Df p a b v ↔ Df q a' b' (v + s)) :
    btF q a' b' = if (btF p a b).2.2 = 0 then ((btF p a b).1 + s, (btF p a b).2.1 + s, 0) else btF p a b := by
  have fit : fitF p ↔ fitF q := by
    rw [fit_iff hp, fit_iff hq]
    refine ⟨fun ⟨x, hx⟩ => ?_, fun ⟨x, hx⟩ => ?_⟩
    · obtain ⟨y, hy, _⟩ := (hd _).1 ⟨x, hx, rfl⟩
      exact ⟨y, hy⟩
    · obtain ⟨y, hy, _⟩ := (hd (x a' - x b' - s)).2 ⟨x, hx, by omega⟩
      exact ⟨y, hy⟩
  have hd' : ∀ v, Df q a' b' v ↔ Df p a b (v - s) := fun v => by rw [hd, show v - s + s = v by omega]
  have hn : ∀ v, Df p b a v ↔ Df q b' a' (v - s) := fun v => by rw [df_neg, hd, df_neg (p := q), show -(-v + s) = v - s by omega]
  have hn' : ∀ v, Df q b' a' v ↔ Df p b a (v + s) := fun v => by rw [hn, show v + s - s = v by omega]
  rcases btF_cases p a b with h | ⟨_, h1, h2⟩ | ⟨_, h1, h2, h3⟩ | ⟨_, h1, h2, h3, h4⟩ | ⟨_, h1, h2, lo, hi, h3, h4, _, _, _, h5⟩
  · exact absurd hp h.1
  · rw [h2]
    show btF q a' b' = (0, 0, 4)
    unfold btF; rw [if_pos hq, if_neg (fun h => h1 (ht.2 h))]
  · rw [h3]
    show btF q a' b' = (0, 0, 6)
    unfold btF; rw [if_pos hq, if_pos (ht.1 h1), if_neg (fun h => h2 (fit.2 h))]
  · rw [h4]
    show btF q a' b' = (0, 0, 12)
    have hu : Un q a' b' ∨ Un q b' a' := by
      rcases h3 with h | h
      · refine .inl (un_df.2 fun K => ?_)
        obtain ⟨v, h5, h6⟩ := un_df.1 h (K - s)
        exact ⟨v + s, (hd v).1 h5, by omega⟩
      · refine .inr (un_df.2 fun K => ?_)
        obtain ⟨v, h5, h6⟩ := un_df.1 h (K + s)
        exact ⟨v - s, (hn v).1 h5, by omega⟩
    rcases btF_cases q a' b' with h | h | h | h | ⟨_, _, _, lo', hi', g1, g2, _⟩
    · exact absurd hq h.1
    · exact absurd (ht.1 h1) h.2.1
    · exact absurd (fit.1 h2) h.2.2.1
    · exact h.2.2.2.2
    · rcases hu with h | h
      · exact (g1.not_un h).elim
      · exact (g2.not_un h).elim
  · rw [h5]
    show btF q a' b' = (lo + s, hi + s, 0)
    refine btF_ok hq (ht.1 h1) (fit.1 h2) ?_ ?_
    · rw [mx_df] at h3 ⊢
      refine ⟨fun v hv => ?_, (hd hi).1 h3.2⟩
      have := h3.1 _ ((hd' v).1 hv)
      omega
    · rw [mx_df] at h4 ⊢
      refine ⟨fun v hv => ?_, (hn' _).2 (by rw [show -(lo + s) + s = -lo by omega]; exact h4.2)⟩
      have := h4.1 _ ((hn' v).1 hv)
      omega

theorem btF_same (hp : PnOk p) (hq : PnOk q) (ht : (thP p a ∧ thP p b) ↔ (thP q a' ∧ thP q b')) (hd : ∀ v, Df p a b v ↔ Df q a' b' v) : btF q a' b' = btF p a b := by
  rw [btF_shift (s := 0) hp hq ht (fun v => by rw [Int.add_zero]; exact hd v), Int.add_zero, Int.add_zero]
  split
  · rename_i h; rw [← h]
  · rfl
end
end Go.Sx.Nos

/- nose: the sample; the results that the document fixes. -/

namespace Go.Sx.Nos
open Go Go.Sx Go.Proofs
set_option maxRecDepth 1000000

theorem getD_mem {α : Type} {l : List α} {d : α} {P : α → Prop} : (∀ j, j < l.length → P (l.getD j d)) ↔ ∀ x ∈ l, P x := by
  refine ⟨fun h x hx => ?_, fun h j hj => ?_⟩
  · obtain ⟨j, hj, rfl⟩ := List.mem_iff_getElem.1 hx
    have := h j hj
    rwa [List.getD_eq_getElem?_getD, List.getElem?_eq_getElem hj] at this
  · rw [List.getD_eq_getElem?_getD, List.getElem?_eq_getElem hj]
    exact h _ (List.getElem_mem hj)

theorem ref_v (p : Pn) (c1 c2 c3 : Nat) : ∃ h', CallsV Try.prog 15 [.agg (pnV p c1 c2 c3)] (pnH p) (.ret (.bool (panB p))) h' := by
  obtain ⟨r, h', rfl, hc⟩ := of_callN (callL2_good (f := 15) (g := 70) (by decide) (pkL_ok (p := p) (c1 := c1) (c2 := c2) (c3 := c3)) (lg := []) (fun x hx => by cases hx) (sp := noSpec) noSp (un := 10) 20)
    (f := 15) (args := [.agg (pnV p c1 c2 c3)]) (h := pnH p) (K := fun r _ => r = .ret (.bool (panB p)))
    (by
      refine cast (ref_ev p c1 c2 c3 _).symm ?_
      have no : ¬ PnOk p → VRes.ret (VV.bool false) = .ret (.bool (panB p)) := fun h => by
        cases hb : panB p with
        | false => rfl
        | true => exact absurd (panB_iff.1 hb) h
      refine cond_d (fun a => no fun h => by have := h.d; omega) (fun a => cond_d (fun b => no fun h => by have := h.t; omega) (fun b => cond_d (fun d => no fun h => by have := h.s; omega) (fun d => ?_)))
      refine ⟨fitP_self rfl, ⟨by omega, by omega⟩, fun e1 => ⟨fitP_self rfl, ⟨by omega, by omega⟩, fun e2 => ⟨fitP_self rfl, ⟨by omega, by omega⟩, fun e3 => ?_, fun e3 _ => no fun h => e3 ?_⟩, fun e2 _ => no fun h => e2 ?_⟩, fun e1 _ => no fun h => e1 ?_⟩
      · rw [panB_iff.2 ⟨by omega, by omega, by omega, (getD_mem (P := okD)).1 e1, (getD_mem (P := okT p)).1 e2, (getD_mem (P := okS)).1 e3⟩]
      · exact (getD_mem (P := okS)).2 h.sd
      · exact (getD_mem (P := okT p)).2 h.ts
      · exact (getD_mem (P := okD)).2 h.dr)
  exact ⟨h', hc⟩

noncomputable def refT := shT 15 0 boV (fun _ _ => True) fun p _ => panB p
theorem refT_ok : SpOk Try.prog refT.1 refT.2 := shT_ok (fun _ => rfl) fun p ns hn _ c1 c2 c3 => by
  match ns, hn with
  | [], _ => exact ref_v p c1 c2 c3

def sampP : Pn := ⟨[0, 10], [⟨0, 0, 0, 500, 20⟩, ⟨0, 1, 0, 530, 20⟩, ⟨1, 0, 3, 700, 5⟩, ⟨1, 1, 5, 735, 5⟩], [⟨0, 480, 490⟩]⟩

def lkSm : List Lk := [(vN 0, cN 0 0, 520), (cN 0 0, vN 0, -480), (vN 1, cN 0 0, 550), (cN 0 0, vN 1, -510), (vN 0, cN 1 3, 705), (cN 1 3, vN 0, -695), (cN 1 3, cN 1 5, 20), (cN 1 5, cN 1 3, 20), (vN 1, cN 1 5, 740), (cN 1 5, vN 1, -730), (vN 0, zeroN, 490), (zeroN, vN 0, -480)]
theorem links_samp : links sampP = lkSm := by decide
theorem samp_ok : PnOk sampP := panB_iff.1 (by decide)

def sx1 (a : Nd) : Int := if a = vN 0 then 490 else if a = vN 1 then 555 else if a = cN 0 0 then 5 else if a = cN 1 3 then -205 else if a = cN 1 5 then -185 else 0
def sx2 (a : Nd) : Int := if a = vN 0 then 480 else if a = vN 1 then 485 else if a = cN 0 0 then -30 else if a = cN 1 3 then -225 else if a = cN 1 5 then -245 else 0
theorem sol1 : Sol sampP sx1 := by unfold Sol; rw [links_samp]; decide
theorem sol2 : Sol sampP sx2 := by unfold Sol; rw [links_samp]; decide
theorem samp_fit : fitF sampP := (fit_iff samp_ok).2 ⟨_, sol1⟩
theorem samp_th {a : Nd} (h : (lkSm.any fun l => l.1 == a) = true) : thP sampP a := by
  obtain ⟨l, h1, h2⟩ := List.any_eq_true.1 h
  exact .inr ⟨l, links_samp ▸ h1, by simpa using h2⟩

theorem sol_in {x : Nd → Int} (h : Sol sampP x) : (x (cN 1 3) - x (vN 0) ≤ -695 ∧ x (cN 1 5) - x (cN 1 3) ≤ 20 ∧ x (vN 1) - x (cN 1 5) ≤ 740 ∧ x (vN 0) - x zeroN ≤ 490) ∧
    (x (vN 0) - x (cN 1 3) ≤ 705 ∧ x (cN 1 3) - x (cN 1 5) ≤ 20 ∧ x (cN 1 5) - x (vN 1) ≤ -730 ∧ x zeroN - x (vN 0) ≤ -480) := by
  have g : ∀ l ∈ lkSm, x l.1 - x l.2.1 ≤ l.2.2 := links_samp ▸ h
  exact ⟨⟨g (cN 1 3, vN 0, -695) (by decide), g (cN 1 5, cN 1 3, 20) (by decide), g (vN 1, cN 1 5, 740) (by decide), g (vN 0, zeroN, 490) (by decide)⟩,
    ⟨g (vN 0, cN 1 3, 705) (by decide), g (cN 1 3, cN 1 5, 20) (by decide), g (cN 1 5, vN 1, -730) (by decide), g (zeroN, vN 0, -480) (by decide)⟩⟩

theorem samp_val : valF sampP 1 = (485, 555, 0) := by
  unfold valF
  rw [if_neg (fun h => h.2 (by decide))]
  exact btF_ok samp_ok ⟨samp_th (by decide), .inl rfl⟩ samp_fit ⟨fun x hx => by have := sol_in hx; omega, sx1, sol1, by decide⟩ ⟨fun x hx => by have := sol_in hx; omega, sx2, sol2, by decide⟩

theorem samp_dif : difF sampP 1 0 = (5, 65, 0) := by
  unfold difF
  rw [if_neg (fun h => h.2.elim (fun h => h (by decide)) (fun h => h (by decide)))]
  exact btF_ok samp_ok ⟨samp_th (by decide), samp_th (by decide)⟩ samp_fit ⟨fun x hx => by have := sol_in hx; omega, sx1, sol1, by decide⟩ ⟨fun x hx => by have := sol_in hx; omega, sx2, sol2, by decide⟩

theorem samp_bia : biaF sampP 1 5 = (185, 245, 0) := by
  unfold biaF
  exact btF_ok samp_ok ⟨.inl rfl, samp_th (by decide)⟩ samp_fit ⟨fun x hx => by have := sol_in hx; omega, sx2, sol2, by decide⟩ ⟨fun x hx => by have := sol_in hx; omega, sx1, sol1, by decide⟩

theorem vbd_ok : ∀ x ∈ [valT, difT, biaT], SpOk Try.prog x.1 x.2 := fun x hx => by
  simp only [List.mem_cons, List.not_mem_nil, or_false] at hx
  rcases hx with rfl | rfl | rfl
  · exact valT_ok
  · exact difT_ok
  · exact biaT_ok

theorem samp_is {h : VH} (h1 : h.at 1 = .vec 2 (fun j => List.take 1 (List.drop (j * 1) [I 0, I 10])) 1 3) (h2 : h.at 2 = .vec 4 (fun j => List.take 5 (List.drop (j * 5) [I 0, I 0, I 0, I 500, I 20, I 0, I 1, I 0, I 530, I 20, I 1, I 0, I 3, I 700, I 5, I 1, I 1, I 5, I 735, I 5])) 5 32) (h3 : h.at 3 = .vec 1 (fun j => List.take 3 (List.drop (j * 3) [I 0, I 480, I 490])) 3 36) :
    pnIs h sampP (.sl 1 2) (.sl 2 4) (.sl 3 1) := by
  refine ⟨⟨rfl, _, _, h1, fun j hj => ?_⟩, ⟨rfl, _, _, h2, fun j hj => ?_⟩, ⟨rfl, _, _, h3, fun j hj => ?_⟩⟩
  · match j, hj with
    | 0, _ => rfl
    | 1, _ => rfl
  · match j, hj with
    | 0, _ => rfl
    | 1, _ => rfl
    | 2, _ => rfl
    | 3, _ => rfl
  · match j, hj with
    | 0, _ => rfl

theorem alive_v : ∃ h', CallsV Try.prog 16 [] ⟨0, []⟩ (.ret (.bool true)) h' := by
  obtain ⟨r, h', rfl, hc⟩ := of_callN (tab_good hmix vbd_ok 20) (un := 10) (f := 16) (args := []) (h := ⟨0, []⟩) (K := fun r _ => r = .ret (.bool true))
    (by
      refine cast (alive_ev _).symm ?_
      refine ⟨sampP, samp_is rfl rfl rfl, by unfold n64; decide, sampP, samp_is rfl rfl rfl, by unfold n64; decide, sampP, samp_is rfl rfl rfl, trivial, ?_⟩
      have e1 : (fun (p : Pn) (ns : List Int) => valF p (g0 ns 0)) sampP [1] = (485, 555, 0) := samp_val
      have e2 : (fun (p : Pn) (ns : List Int) => difF p (g0 ns 0) (g0 ns 1)) sampP [1, 0] = (5, 65, 0) := samp_dif
      have e3 : (fun (p : Pn) (ns : List Int) => biaF p (g0 ns 0) (g0 ns 1)) sampP [1, 5] = (185, 245, 0) := samp_bia
      rw [e1, e2, e3]
      rfl)
  exact ⟨h', hc⟩

/-- The results that the document fixes, as a row. -/
def alvT : FuncId × Spec1 := (16, fun _ args h K => match args with
  | [] => K (.ret (.bool true)) h
  | _ => False)

theorem alvT_ok : SpOk Try.prog alvT.1 alvT.2 := by
  intro lock args h K hK
  simp only [alvT] at hK
  split at hK
  · obtain ⟨h', hc⟩ := alive_v
    exact ⟨_, h, hK, lockP_refl _ _, calls_lift0 hc rfl rfl⟩
  · exact hK.elim

open Classical in
/-- Do two samples differ by at most so much? -/
noncomputable def alkF (p : Pn) (a b m : Int) : Bool × Bool × Int :=
  if (difF p a b).2.2 ≠ 0 ∨ m < 0 then (false, false, (difF p a b).2.2) else (decide (-m ≤ (difF p a b).1 ∧ (difF p a b).2.1 ≤ m), decide ((difF p a b).1 ≤ m ∧ -m ≤ (difF p a b).2.1), 0)
def alV (r : Bool × Bool × Int) : VV := .tup [.bool r.1, .bool r.2.1, I r.2.2]

theorem alike_v (p : Pn) (c1 c2 c3 : Nat) (a b m : Int) (ha : n64 a) (hb : n64 b) (hm : m ≤ 9223372036854775807) : ∃ h', CallsV Try.prog 29 [.agg (pnV p c1 c2 c3), I a, I b, I m] (pnH p) (.ret (alV (alkF p a b m))) h' := by
  obtain ⟨r, h', rfl, hc⟩ := of_callN (tab_good hmix (l := [difT]) (fun x hx => by
      simp only [List.mem_singleton] at hx
      subst hx
      exact difT_ok) 20) (un := 10) (f := 29) (args := [.agg (pnV p c1 c2 c3), I a, I b, I m]) (h := pnH p) (K := fun r _ => r = .ret (alV (alkF p a b m)))
    (by
      refine cast (alike_ev p c1 c2 c3 a b m _).symm ?_
      refine ⟨p, pnIs_own rfl rfl rfl, ⟨ha, hb⟩, ?_⟩
      have e : (fun (p : Pn) (ns : List Int) => difF p (g0 ns 0) (g0 ns 1)) p [a, b] = difF p a b := rfl
      rw [e]
      have k1 : (difF p a b).2.2 ≠ 0 ∨ m < 0 → alkF p a b m = (false, false, (difF p a b).2.2) := fun h => by unfold alkF; rw [if_pos h]
      have k2 : ¬ ((difF p a b).2.2 ≠ 0 ∨ m < 0) → ∀ {x y : Bool}, (x = true ↔ -m ≤ (difF p a b).1 ∧ (difF p a b).2.1 ≤ m) → (y = true ↔ (difF p a b).1 ≤ m ∧ -m ≤ (difF p a b).2.1) → VRes.ret (.tup [.bool x, .bool y, I 0]) = .ret (alV (alkF p a b m)) := fun h x y h1 h2 => by
        unfold alkF
        rw [if_neg h]
        congr 1
        show _ = VV.tup [.bool (decide _), .bool (decide _), I 0]
        congr 2
        · congr 1
          rw [Bool.eq_iff_iff, h1, decide_eq_true_eq]
        · congr 2
          rw [Bool.eq_iff_iff, h2, decide_eq_true_eq]
      refine cond_nd (fun h => by rw [k1 (.inl h)]; rfl) (fun h => cond_d (fun hm0 => by rw [k1 (.inr hm0)]; rfl) (fun hm0 => cond_r (by omega) ?_))
      have hn : ¬ ((difF p a b).2.2 ≠ 0 ∨ m < 0) := fun hh => hh.elim (fun h2 => h2 h) hm0
      refine cond_d (fun a0 => cond_d (fun a1 => cond_r (by omega) (k2 hn ?_ ?_)) (fun a1 => k2 hn ?_ ?_)) (fun a0 => cond_d (fun a1 => cond_r (by omega) (k2 hn ?_ ?_)) (fun a1 => k2 hn ?_ ?_))
      all_goals first | (rw [decide_eq_true_eq]; omega) | (simp only [Bool.false_eq_true, false_iff]; omega))
  exact ⟨h', hc⟩

noncomputable def alkT := shT 29 3 alV (fun _ ns => (n64 (g0 ns 0) ∧ n64 (g0 ns 1)) ∧ g0 ns 2 ≤ 9223372036854775807) fun p ns => alkF p (g0 ns 0) (g0 ns 1) (g0 ns 2)
theorem alkT_ok : SpOk Try.prog alkT.1 alkT.2 := shT_ok (fun _ => rfl) fun p ns hn hC c1 c2 c3 => by
  match ns, hn with
  | [a, b, m], _ => exact alike_v p c1 c2 c3 a b m hC.1.1 hC.1.2 hC.2
end Go.Sx.Nos
