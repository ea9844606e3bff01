/- stream: Hb1 Hb2 Hb3 Hb4 Hb5 Hb6 Hb7, in one text. -/
import Derived.Test.YtdfbhoejljidfaaHA
/- malt: MaltCheapest, the other set, evaluated. -/

namespace Go.Sx.Grs
open Go Go.Sx Go.Proofs
set_option maxRecDepth 1000000

def uG (B : List Int) (j : Nat) : List VV := [.int .u32 (B.getD j 0)]
def uD (B : List Int) : VV := .tl B.length 1 (uG B)
abbrev moB (m : By) : VB := .cells (byL m) 66
def dsO : List Nat := [19, 18, 17, 16, 15, 14, 13, 0, 1, 2, 3, 4, 5]
def VO (l : List By) (B : List Int) (day need nit s : Int) (c : VV) (p e i : Int) (o : VV) : List VV := [I i, o, I e, I p, c, .bool false, .ptr (.own 0 0), byD l, I day, I need, I nit, .int .u16 s, uD B]
def BO (m : By) (O : List Int) : List VB := [moB m, .vec O.length (dG O) 1 3]
def oF (s : Nat) : Nat → List Int
  | 0 => []
  | k + 1 => if s.testBit k then oF s k ++ [(k : Int)] else oF s k
theorem otn_ev (l : List By) (B : List Int) (m : By) (day need nit s : Int) (i : Int) (O : List Int) (X : VEx → List VV → List VB → Prop) : codeE Try.prog (callN Try.prog noSpec noL 10 20) (fun _ => none) true 10 312 0 (loopB 0 (bodyOf Try.prog 10)) (dsO.zip (VO l B day need nit s .nils 0 4 i (.sl 1 O.length))) ⟨2, [0, 1].zip (BO m O)⟩ (obs 2 dsO [0, 1] X) =
  (bif decide (i < (↑l.length : Int)) then
 bif decide (i < (0 : Int)) then
 False
 else bif decide (remZ (s.fdiv ((2 : Int) ^ min i.toNat IntKind.u16.bits)) (2 : Int) = (1 : Int)) then
 bif O.length.beq O.length then
 bif roomB (O.length + 1) (8) then
 bif inK IntKind.i64 (i + (1 : Int)) then
 X VEx.normal [I (i + (1 : Int)), VV.sl 1 (O.length + 1), I 4, I 0, VV.nils, VV.bool false, VV.ptr (VA.own 0 0), VV.tl l.length 6 (byG l), I day, I need, I nit, VV.int IntKind.u16 s, VV.tl B.length 1 (uG B)] [VB.cells [I m.wl, I m.wh, I m.nl, I m.nh, I m.r, I m.p] (66 : TypeId), VB.vec (O.length + 1) (catG O.length (dG O) fun j => List.take (1) (List.drop (j * (1)) [I i])) (1) 3]
 else False
 else False
 else False
 else bif inK IntKind.i64 (i + (1 : Int)) then
 X VEx.normal [I (i + (1 : Int)), VV.sl 1 O.length, I 4, I 0, VV.nils, VV.bool false, VV.ptr (VA.own 0 0), VV.tl l.length 6 (byG l), I day, I need, I nit, VV.int IntKind.u16 s, VV.tl B.length 1 (uG B)] [VB.cells [I m.wl, I m.wh, I m.nl, I m.nh, I m.r, I m.p] (66 : TypeId), VB.vec O.length (dG O) 1 (3 : TypeId)]
 else False
 else X (VEx.exit 0) [I i, VV.sl 1 O.length, I 4, I 0, VV.nils, VV.bool false, VV.ptr (VA.own 0 0), VV.tl l.length 6 (byG l), I day, I need, I nit, VV.int IntKind.u16 s, VV.tl B.length 1 (uG B)] [VB.cells [I m.wl, I m.wh, I m.nl, I m.nh, I m.r, I m.p] (66 : TypeId), VB.vec O.length (dG O) 1 (3 : TypeId)]) := by kernel_rfl

def lOns (l : List By) (B : List Int) (m : By) (day need nit : Int) (s : Nat) (O : List Int) : LT := fun lock t h K =>
  FitP lock h t ⟨2, [0, 1].zip (BO m [])⟩ (dsO.zip (VO l B day need nit s .nils 0 4 0 (.sl 1 0))) ∧ (l.length ≤ 12 ∧ O = oF s l.length) ∧ K .normal (dsO.zip (VO l B day need nit s .nils 0 4 l.length (.sl 1 O.length))) ⟨2, [0, 1].zip (BO m O)⟩
def lOn (l : List By) (B : List Int) (m : By) (day need nit : Int) (s : Nat) (O : List Int) : LT := fun lock t h K =>
  FitP lock h t ⟨1, [0].zip [moB m]⟩ (dsO.zip (VO l B day need nit s .nils 0 4 0 .nils)) ∧ (l.length ≤ 12 ∧ O = oF s l.length) ∧ K .normal (dsO.zip (VO l B day need nit s .nils 0 4 l.length (.sl 1 O.length))) ⟨2, [0, 1].zip (BO m O)⟩
theorem oty_ev (l : List By) (B : List Int) (m : By) (day need nit s : Int) (y : Sk) (i : Int) (O : List Int) (X : VEx → List VV → List VB → Prop) : codeE Try.prog (callN Try.prog noSpec noL 10 20) (fun _ => none) true 10 312 0 (loopB 0 (bodyOf Try.prog 10)) (dsO.zip (VO l B day need nit s (inD y.L) y.p 0 i (.sl 1 O.length))) ⟨2, [0, 1].zip (BO m O)⟩ (obs 2 dsO [0, 1] X) =
  (bif decide (i < (↑l.length : Int)) then
 bif decide (i < (0 : Int)) then
 False
 else bif decide (remZ (s.fdiv ((2 : Int) ^ min i.toNat IntKind.u16.bits)) (2 : Int) = (1 : Int)) then
 bif O.length.beq O.length then
 bif roomB (O.length + 1) (8) then
 bif inK IntKind.i64 (i + (1 : Int)) then
 X VEx.normal [I (i + (1 : Int)), VV.sl 1 (O.length + 1), I 0, I y.p, VV.tl y.L.length 1 (dG y.L), VV.bool false, VV.ptr (VA.own 0 0), VV.tl l.length 6 (byG l), I day, I need, I nit, VV.int IntKind.u16 s, VV.tl B.length 1 (uG B)] [VB.cells [I m.wl, I m.wh, I m.nl, I m.nh, I m.r, I m.p] (66 : TypeId), VB.vec (O.length + 1) (catG O.length (dG O) fun j => List.take (1) (List.drop (j * (1)) [I i])) (1) 3]
 else False
 else False
 else False
 else bif inK IntKind.i64 (i + (1 : Int)) then
 X VEx.normal [I (i + (1 : Int)), VV.sl 1 O.length, I 0, I y.p, VV.tl y.L.length 1 (dG y.L), VV.bool false, VV.ptr (VA.own 0 0), VV.tl l.length 6 (byG l), I day, I need, I nit, VV.int IntKind.u16 s, VV.tl B.length 1 (uG B)] [VB.cells [I m.wl, I m.wh, I m.nl, I m.nh, I m.r, I m.p] (66 : TypeId), VB.vec O.length (dG O) 1 (3 : TypeId)]
 else False
 else X (VEx.exit 0) [I i, VV.sl 1 O.length, I 0, I y.p, VV.tl y.L.length 1 (dG y.L), VV.bool false, VV.ptr (VA.own 0 0), VV.tl l.length 6 (byG l), I day, I need, I nit, VV.int IntKind.u16 s, VV.tl B.length 1 (uG B)] [VB.cells [I m.wl, I m.wh, I m.nl, I m.nh, I m.r, I m.p] (66 : TypeId), VB.vec O.length (dG O) 1 (3 : TypeId)]) := by kernel_rfl

def lOys (l : List By) (B : List Int) (m : By) (day need nit : Int) (s : Nat) (y : Sk) (O : List Int) : LT := fun lock t h K =>
  FitP lock h t ⟨2, [0, 1].zip (BO m [])⟩ (dsO.zip (VO l B day need nit s (inD y.L) y.p 0 0 (.sl 1 0))) ∧ (l.length ≤ 12 ∧ O = oF s l.length) ∧ K .normal (dsO.zip (VO l B day need nit s (inD y.L) y.p 0 l.length (.sl 1 O.length))) ⟨2, [0, 1].zip (BO m O)⟩
def lOy (l : List By) (B : List Int) (m : By) (day need nit : Int) (s : Nat) (y : Sk) (O : List Int) : LT := fun lock t h K =>
  FitP lock h t ⟨1, [0].zip [moB m]⟩ (dsO.zip (VO l B day need nit s (inD y.L) y.p 0 0 .nils)) ∧ (l.length ≤ 12 ∧ O = oF s l.length) ∧ K .normal (dsO.zip (VO l B day need nit s (inD y.L) y.p 0 l.length (.sl 1 O.length))) ⟨2, [0, 1].zip (BO m O)⟩
theorem f0_ev (l : List By) (B : List Int) (m : By) (day need nit : Int) (s : Nat) (C : VV) (O : List Int) (Q : VRes → Prop) : callN Try.prog (tabS [awT, grT (.tup [.nils, I 0, I 4]) C, lotsT, chT]) (atF 10 [(0, lOn l B m day need nit s O)]) 10 20 0 (.fn 10) [byD l, I day, I need, I nit, .int .u16 s, uD B, .agg (byL m)] ⟨0, []⟩ (fun r h => Q r) =
  (bif decide ((↑l.length : Int) > (12 : Int)) then
 Q (VRes.ret (VV.bool true))
 else bif decide ((↑B.length : Int) = (0 : Int)) then
 Q (VRes.ret (VV.bool true))
 else ∃ l_1, isT (VH.mk (0 + 1) [(0, VB.cells [I m.wl, I m.wh, I m.nl, I m.nh, I m.r, I m.p] 66)]) (VV.tl l.length 6 (byG l)) (byD l_1) ∧ gristR l_1 day need nit = VRes.ret (VV.tup [VV.nils, I 0, I 4]) ∧ true = true ∧ true = true ∧ ∃ l_2, isT (VH.mk (0 + 1) [(0, VB.cells [I m.wl, I m.wh, I m.nl, I m.nh, I m.r, I m.p] 66)]) (VV.tl l.length 6 (byG l)) (byD l_2) ∧ l_2.length ≤ 100000 ∧ bif !(l_2.all okBy && decide (l_2.length ≤ 12)) then
 Q (VRes.ret (VV.bool false))
 else FitP 0 (VH.mk 1 ([0].zip [moB m])) (dsO.zip (VO l B day need nit (↑s : Int) VV.nils (0 : Int) (4 : Int) (0 : Int) VV.nils)) (VH.mk 1 ([0].zip [moB m])) (dsO.zip (VO l B day need nit (↑s : Int) VV.nils (0 : Int) (4 : Int) (0 : Int) VV.nils)) ∧ (l.length ≤ 12 ∧ O = oF s l.length) ∧ ∃ l_3 D, isT (VH.mk 2 ([0, 1].zip (BO m O))) (VV.tl l.length 6 (byG l)) (byD l_3) ∧ isT (VH.mk 2 ([0, 1].zip (BO m O))) (VV.sl 1 O.length) (inD D) ∧ (l_3.all okBy = true ∧ D.length ≤ 40 ∧ dOk D l_3.length ∧ (0 : Int) ≤ day ∧ (0 : Int) ≤ nit ∧ nit ≤ (10000 : Int)) ∧ ∀ (x : Sk), x = chF l_3 D D.length → bif !fitS day need nit x then
 Q (VRes.ret (VV.bool true))
 else Q (VRes.ret (VV.bool false))) := by kernel_rfl

theorem fE_ev (l : List By) (B : List Int) (m : By) (day need nit : Int) (s : Nat) (C : VV) (Q : VRes → Prop) : callN Try.prog (tabS [awT, grT (.tup [.nils, I 0, I 1]) C, lotsT, chT]) noL 10 20 0 (.fn 10) [byD l, I day, I need, I nit, .int .u16 s, uD B, .agg (byL m)] ⟨0, []⟩ (fun r h => Q r) =
  (bif decide ((↑l.length : Int) > (12 : Int)) then
 Q (VRes.ret (VV.bool true))
 else bif decide ((↑B.length : Int) = (0 : Int)) then
 Q (VRes.ret (VV.bool true))
 else ∃ l_1, isT (VH.mk (0 + 1) [(0, VB.cells [I m.wl, I m.wh, I m.nl, I m.nh, I m.r, I m.p] 66)]) (VV.tl l.length 6 (byG l)) (byD l_1) ∧ gristR l_1 day need nit = VRes.ret (VV.tup [VV.nils, I 0, I 1]) ∧ true = true ∧ true = true ∧ Q (VRes.ret (VV.bool true))) := by kernel_rfl

theorem fR_ev (l : List By) (B : List Int) (m : By) (day need nit : Int) (s : Nat) (C : VV) (Q : VRes → Prop) : callN Try.prog (tabS [awT, grT (.tup [.nils, I 0, I 2]) C, lotsT, chT]) noL 10 20 0 (.fn 10) [byD l, I day, I need, I nit, .int .u16 s, uD B, .agg (byL m)] ⟨0, []⟩ (fun r h => Q r) =
  (bif decide ((↑l.length : Int) > (12 : Int)) then
 Q (VRes.ret (VV.bool true))
 else bif decide ((↑B.length : Int) = (0 : Int)) then
 Q (VRes.ret (VV.bool true))
 else ∃ l_1, isT (VH.mk (0 + 1) [(0, VB.cells [I m.wl, I m.wh, I m.nl, I m.nh, I m.r, I m.p] 66)]) (VV.tl l.length 6 (byG l)) (byD l_1) ∧ gristR l_1 day need nit = VRes.ret (VV.tup [VV.nils, I 0, I 2]) ∧ true = true ∧ true = true ∧ Q (VRes.ret (VV.bool true))) := by kernel_rfl


end Go.Sx.Grs

/- malt: picking, evaluated. -/

namespace Go.Sx.Grs
open Go Go.Sx Go.Proofs
set_option maxRecDepth 1000000

theorem pick_ev (lo hi b : Int) (Q : VRes → Prop) : callN Try.prog noSpec noL 10 20 0 (.fn 19) [I lo, I hi, .int .u32 b] ⟨0, []⟩ (fun r _ => Q r) =
  (bif decide (lo > hi) then
 Q (VRes.ret (VV.tup [I 0, VV.bool false]))
 else bif inK IntKind.i64 b then
 bif inK IntKind.i64 (hi - lo) then
 bif inK IntKind.i64 (hi - lo + (1 : Int)) then
 bif decide (hi - lo + (1 : Int) = (0 : Int)) then
 False
 else bif inK IntKind.i64 (lo + remZ b (hi - lo + (1 : Int))) then
 Q (VRes.ret (VV.tup [I (lo + remZ b (hi - lo + (1 : Int))), VV.bool true]))
 else False
 else False
 else False
 else False) := by kernel_rfl

/-- Picking, as a row. -/
def pickT : FuncId × Spec1 := (19, fun _ args h K => match args with
  | [.int .i64 lo, .int .i64 hi, .int .u32 b] => (0 ≤ b ∧ b < 4294967296 ∧ 0 ≤ lo ∧ lo ≤ hi ∧ hi ≤ 1099511627776) ∧ ∀ v : Int, lo ≤ v → v ≤ hi → K (.ret (.tup [I v, .bool true])) h
  | _ => False)
theorem remZ_bd {a m : Int} (ha : 0 ≤ a) (hm : 0 < m) : 0 ≤ remZ a m ∧ remZ a m < m := by
  unfold remZ
  rw [Int.tmod_eq_emod_of_nonneg ha]
  exact ⟨Int.emod_nonneg _ (by omega), Int.emod_lt_of_pos _ hm⟩
theorem pickT_ok : SpOk Try.prog pickT.1 pickT.2 := by
  intro lock args h K hK
  simp only [pickT] at hK
  split at hK
  · rename_i lo hi b
    obtain ⟨⟨h1, h2, h3, h4, h5⟩, hK⟩ := hK
    obtain ⟨q1, q2⟩ := remZ_bd h1 (show 0 < hi - lo + 1 by omega)
    obtain ⟨r, h', rfl, hc⟩ := of_callN good0 (f := 19) (args := [I lo, I hi, .int .u32 b]) (h := ⟨0, []⟩) (K := fun r _ => r = .ret (.tup [I (lo + remZ b (hi - lo + 1)), .bool true])) (by
      refine cast (pick_ev lo hi b _).symm ?_
      refine cond_d (fun h => by omega) (fun _ => cond_r (by omega) (cond_r (by omega) (cond_r (by omega) (cond_d (fun h => by omega) (fun _ => cond_r (by omega) rfl)))))) 
    exact ⟨_, h, hK _ (by omega) (by omega), lockP_refl _ _, calls_lendP hc rfl ⟨⟨rfl, rfl⟩, ⟨rfl, rfl⟩, ⟨rfl, rfl⟩, trivial⟩⟩
  · exact hK.elim

end Go.Sx.Grs

/- malt: MaltCheapest, the lots that were chosen, evaluated. -/

namespace Go.Sx.Grs
open Go Go.Sx Go.Proofs
set_option maxRecDepth 1000000

abbrev atL (l : List By) (y : Sk) (i : Int) : By := l.getD (y.L.getD i.toNat (0 : Int)).toNat b0
abbrev atB (B : List Int) (i : Int) : Int := B.getD (remZ i (↑B.length : Int)).toNat (0 : Int)
def dsP : List Nat := [25, 24, 23, 22, 21, 20, 18, 17, 16, 15, 14, 13, 0, 1, 2, 3, 4, 5]
def VP (l : List By) (B : List Int) (day need nit s : Int) (y : Sk) (ol : Nat) (b : Bool) (co i sm ri we : Int) : List VV := [I i, I sm, I ri, I we, .bool b, I co, .sl 1 ol, I 0, I y.p, inD y.L, .bool false, .ptr (.own 0 0), byD l, I day, I need, I nit, .int .u16 s, uD B]
theorem pk_ev (l : List By) (B : List Int) (m : By) (day need nit s : Int) (y : Sk) (O : List Int) (b : Bool) (co i sm ri we : Int) (X : VEx → List VV → List VB → Prop) : codeE Try.prog (callN Try.prog (tabS [pickT]) noL 10 20) (fun _ => none) true 10 312 0 (loopB 2 (bodyOf Try.prog 10)) (dsP.zip (VP l B day need nit s y O.length b co i sm ri we)) ⟨2, [0, 1].zip (BO m O)⟩ (obs 2 dsP [0, 1] X) =
  (bif decide (i < (↑y.L.length : Int)) then
 bif decide ((0 : Int) ≤ i ∧ i < (↑y.L.length : Int)) then
 bif decide (y.L.getD i.toNat (0 : Int) < (0 : Int)) then
 X VEx.ret [I i, I sm, I ri, I we, VV.bool b, I co, VV.sl 1 O.length, I 0, I y.p, VV.tl y.L.length 1 (dG y.L), VV.bool false, VV.ptr (VA.own 0 0), VV.tl l.length 6 (byG l), I day, I need, I nit, VV.int IntKind.u16 s, VV.tl B.length 1 (uG B)] [VB.cells [I m.wl, I m.wh, I m.nl, I m.nh, I m.r, I m.p] (66 : TypeId), VB.vec O.length (dG O) 1 (3 : TypeId)]
 else bif decide (y.L.getD i.toNat (0 : Int) ≥ (↑l.length : Int)) then
 X VEx.ret [I i, I sm, I ri, I we, VV.bool b, I co, VV.sl 1 O.length, I 0, I y.p, VV.tl y.L.length 1 (dG y.L), VV.bool false, VV.ptr (VA.own 0 0), VV.tl l.length 6 (byG l), I day, I need, I nit, VV.int IntKind.u16 s, VV.tl B.length 1 (uG B)] [VB.cells [I m.wl, I m.wh, I m.nl, I m.nh, I m.r, I m.p] (66 : TypeId), VB.vec O.length (dG O) 1 (3 : TypeId)]
 else bif decide (i > (0 : Int)) then
 bif inK IntKind.i64 (i - (1 : Int)) then
 bif decide ((0 : Int) ≤ i - (1 : Int) ∧ i - (1 : Int) < (↑y.L.length : Int)) then
 bif decide (y.L.getD i.toNat (0 : Int) ≤ y.L.getD (i - (1 : Int)).toNat (0 : Int)) then
 X VEx.ret [I i, I sm, I ri, I we, VV.bool b, I co, VV.sl 1 O.length, I 0, I y.p, VV.tl y.L.length 1 (dG y.L), VV.bool false, VV.ptr (VA.own 0 0), VV.tl l.length 6 (byG l), I day, I need, I nit, VV.int IntKind.u16 s, VV.tl B.length 1 (uG B)] [VB.cells [I m.wl, I m.wh, I m.nl, I m.nh, I m.r, I m.p] (66 : TypeId), VB.vec O.length (dG O) 1 (3 : TypeId)]
 else bif decide ((0 : Int) ≤ y.L.getD i.toNat (0 : Int) ∧ y.L.getD i.toNat (0 : Int) < (↑l.length : Int)) then
 bif decide ((atL l y i).r > day) then
 X VEx.ret [I i, I sm, I ri, I we, VV.bool b, I co, VV.sl 1 O.length, I 0, I y.p, VV.tl y.L.length 1 (dG y.L), VV.bool false, VV.ptr (VA.own 0 0), VV.tl l.length 6 (byG l), I day, I need, I nit, VV.int IntKind.u16 s, VV.tl B.length 1 (uG B)] [VB.cells [I m.wl, I m.wh, I m.nl, I m.nh, I m.r, I m.p] (66 : TypeId), VB.vec O.length (dG O) 1 (3 : TypeId)]
 else bif decide ((0 : Int) ≤ y.L.getD i.toNat (0 : Int) ∧ y.L.getD i.toNat (0 : Int) < (↑l.length : Int)) then
 bif decide ((0 : Int) ≤ y.L.getD i.toNat (0 : Int) ∧ y.L.getD i.toNat (0 : Int) < (↑l.length : Int)) then
 bif decide ((↑B.length : Int) = (0 : Int)) then
 False
 else bif decide ((0 : Int) ≤ remZ i (↑B.length : Int) ∧ remZ i (↑B.length : Int) < (↑B.length : Int)) then
 ((0 : Int) ≤ atB B i ∧ atB B i < (4294967296 : Int) ∧ (0 : Int) ≤ (atL l y i).wl ∧ (atL l y i).wl ≤ (atL l y i).wh ∧ (atL l y i).wh ≤ (1099511627776 : Int)) ∧ ∀ (v : Int), (atL l y i).wl ≤ v → v ≤ (atL l y i).wh → bif decide ((0 : Int) ≤ y.L.getD i.toNat (0 : Int) ∧ y.L.getD i.toNat (0 : Int) < (↑l.length : Int)) then
 bif decide ((0 : Int) ≤ y.L.getD i.toNat (0 : Int) ∧ y.L.getD i.toNat (0 : Int) < (↑l.length : Int)) then
 bif inK IntKind.i64 (i + (1 : Int)) then
 bif decide ((↑B.length : Int) = (0 : Int)) then
 False
 else bif decide ((0 : Int) ≤ remZ (i + (1 : Int)) (↑B.length : Int) ∧ remZ (i + (1 : Int)) (↑B.length : Int) < (↑B.length : Int)) then
 ((0 : Int) ≤ atB B (i + 1) ∧ atB B (i + 1) < (4294967296 : Int) ∧ (0 : Int) ≤ (atL l y i).nl ∧ (atL l y i).nl ≤ (atL l y i).nh ∧ (atL l y i).nh ≤ (1099511627776 : Int)) ∧ ∀ (v_1 : Int), (atL l y i).nl ≤ v_1 → v_1 ≤ (atL l y i).nh → bif inK IntKind.i64 (we + v) then
 bif inK IntKind.i64 (v * v_1) then
 bif inK IntKind.i64 (ri + v * v_1) then
 bif decide ((0 : Int) ≤ y.L.getD i.toNat (0 : Int) ∧ y.L.getD i.toNat (0 : Int) < (↑l.length : Int)) then
 bif inK IntKind.i64 (sm + (atL l y i).p) then
 bif inK IntKind.i64 (i + (1 : Int)) then
 X VEx.normal [I (i + (1 : Int)), I (sm + (atL l y i).p), I (ri + v * v_1), I (we + v), VV.bool b, I co, VV.sl 1 O.length, I 0, I y.p, VV.tl y.L.length 1 (dG y.L), VV.bool false, VV.ptr (VA.own 0 0), VV.tl l.length 6 (byG l), I day, I need, I nit, VV.int IntKind.u16 s, VV.tl B.length 1 (uG B)] [VB.cells [I m.wl, I m.wh, I m.nl, I m.nh, I m.r, I m.p] (66 : TypeId), VB.vec O.length (dG O) 1 (3 : TypeId)]
 else False
 else False
 else False
 else False
 else False
 else False
 else False
 else False
 else False
 else False
 else False
 else False
 else False
 else False
 else False
 else False
 else bif decide ((0 : Int) ≤ y.L.getD i.toNat (0 : Int) ∧ y.L.getD i.toNat (0 : Int) < (↑l.length : Int)) then
 bif decide ((atL l y i).r > day) then
 X VEx.ret [I i, I sm, I ri, I we, VV.bool b, I co, VV.sl 1 O.length, I 0, I y.p, VV.tl y.L.length 1 (dG y.L), VV.bool false, VV.ptr (VA.own 0 0), VV.tl l.length 6 (byG l), I day, I need, I nit, VV.int IntKind.u16 s, VV.tl B.length 1 (uG B)] [VB.cells [I m.wl, I m.wh, I m.nl, I m.nh, I m.r, I m.p] (66 : TypeId), VB.vec O.length (dG O) 1 (3 : TypeId)]
 else bif decide ((0 : Int) ≤ y.L.getD i.toNat (0 : Int) ∧ y.L.getD i.toNat (0 : Int) < (↑l.length : Int)) then
 bif decide ((0 : Int) ≤ y.L.getD i.toNat (0 : Int) ∧ y.L.getD i.toNat (0 : Int) < (↑l.length : Int)) then
 bif decide ((↑B.length : Int) = (0 : Int)) then
 False
 else bif decide ((0 : Int) ≤ remZ i (↑B.length : Int) ∧ remZ i (↑B.length : Int) < (↑B.length : Int)) then
 ((0 : Int) ≤ atB B i ∧ atB B i < (4294967296 : Int) ∧ (0 : Int) ≤ (atL l y i).wl ∧ (atL l y i).wl ≤ (atL l y i).wh ∧ (atL l y i).wh ≤ (1099511627776 : Int)) ∧ ∀ (v : Int), (atL l y i).wl ≤ v → v ≤ (atL l y i).wh → bif decide ((0 : Int) ≤ y.L.getD i.toNat (0 : Int) ∧ y.L.getD i.toNat (0 : Int) < (↑l.length : Int)) then
 bif decide ((0 : Int) ≤ y.L.getD i.toNat (0 : Int) ∧ y.L.getD i.toNat (0 : Int) < (↑l.length : Int)) then
 bif inK IntKind.i64 (i + (1 : Int)) then
 bif decide ((↑B.length : Int) = (0 : Int)) then
 False
 else bif decide ((0 : Int) ≤ remZ (i + (1 : Int)) (↑B.length : Int) ∧ remZ (i + (1 : Int)) (↑B.length : Int) < (↑B.length : Int)) then
 ((0 : Int) ≤ atB B (i + 1) ∧ atB B (i + 1) < (4294967296 : Int) ∧ (0 : Int) ≤ (atL l y i).nl ∧ (atL l y i).nl ≤ (atL l y i).nh ∧ (atL l y i).nh ≤ (1099511627776 : Int)) ∧ ∀ (v_1 : Int), (atL l y i).nl ≤ v_1 → v_1 ≤ (atL l y i).nh → bif inK IntKind.i64 (we + v) then
 bif inK IntKind.i64 (v * v_1) then
 bif inK IntKind.i64 (ri + v * v_1) then
 bif decide ((0 : Int) ≤ y.L.getD i.toNat (0 : Int) ∧ y.L.getD i.toNat (0 : Int) < (↑l.length : Int)) then
 bif inK IntKind.i64 (sm + (atL l y i).p) then
 bif inK IntKind.i64 (i + (1 : Int)) then
 X VEx.normal [I (i + (1 : Int)), I (sm + (atL l y i).p), I (ri + v * v_1), I (we + v), VV.bool b, I co, VV.sl 1 O.length, I 0, I y.p, VV.tl y.L.length 1 (dG y.L), VV.bool false, VV.ptr (VA.own 0 0), VV.tl l.length 6 (byG l), I day, I need, I nit, VV.int IntKind.u16 s, VV.tl B.length 1 (uG B)] [VB.cells [I m.wl, I m.wh, I m.nl, I m.nh, I m.r, I m.p] (66 : TypeId), VB.vec O.length (dG O) 1 (3 : TypeId)]
 else False
 else False
 else False
 else False
 else False
 else False
 else False
 else False
 else False
 else False
 else False
 else False
 else False
 else False
 else False
 else X (VEx.exit 2) [I i, I sm, I ri, I we, VV.bool b, I co, VV.sl 1 O.length, I 0, I y.p, VV.tl y.L.length 1 (dG y.L), VV.bool false, VV.ptr (VA.own 0 0), VV.tl l.length 6 (byG l), I day, I need, I nit, VV.int IntKind.u16 s, VV.tl B.length 1 (uG B)] [VB.cells [I m.wl, I m.wh, I m.nl, I m.nh, I m.r, I m.p] (66 : TypeId), VB.vec O.length (dG O) 1 (3 : TypeId)]) := by kernel_rfl

/-- What a choice's indices are like. -/
def yOk (l : List By) (day : Int) (D : List Int) : Prop := D.length ≤ 12 ∧ (∀ k, k < D.length → 0 ≤ D.getD k 0 ∧ D.getD k 0 < l.length ∧ (l.getD (D.getD k 0).toNat b0).r ≤ day) ∧ ∀ k, k + 1 < D.length → D.getD k 0 < D.getD (k + 1) 0
def uOk (B : List Int) : Prop := 0 < B.length ∧ ∀ j, 0 ≤ B.getD j 0 ∧ B.getD j 0 < 4294967296
def lP (l : List By) (B : List Int) (m : By) (day need nit : Int) (s : Nat) (y : Sk) (O : List Int) (b : Bool) (co : Int) : LT := fun lock t h K =>
  FitP lock h t ⟨2, [0, 1].zip (BO m O)⟩ (dsP.zip (VP l B day need nit s y O.length b co 0 0 0 0)) ∧ (l.all okBy = true ∧ uOk B ∧ yOk l day y.L) ∧
    ∀ (x : Sk) (ri we : Int), x = chF l y.L y.L.length → (x.w ≤ we ∧ we ≤ 12 * 91625968981) → (0 ≤ ri ∧ ri ≤ x.r) → K .normal (dsP.zip (VP l B day need nit s y O.length b co y.L.length x.p ri we)) ⟨2, [0, 1].zip (BO m O)⟩

end Go.Sx.Grs

/- malt: MaltCheapest, evaluated. -/

namespace Go.Sx.Grs
open Go Go.Sx Go.Proofs
set_option maxRecDepth 1000000

def dsQ : List Nat := [31, 21, 20, 18, 16, 15, 14, 13, 0, 1, 2, 3]
def VQ (l : List By) (day need nit : Int) (y : Sk) (ol : Nat) (b : Bool) (co i : Int) : List VV := [I i, .bool b, I co, .sl 1 ol, I y.p, inD y.L, .bool false, .ptr (.own 0 0), byD l, I day, I need, I nit]
theorem lx_ev (l : List By) (m : By) (day need nit : Int) (y : Sk) (O : List Int) (b : Bool) (co i : Int) (X : VEx → List VV → List VB → Prop) : codeE Try.prog (callN Try.prog noSpec noL 10 20) (fun _ => none) true 10 312 0 (loopB 4 (bodyOf Try.prog 10)) (dsQ.zip (VQ l day need nit y O.length b co i)) ⟨2, [0, 1].zip (BO m O)⟩ (obs 2 dsQ [0, 1] X) =
  (bif decide (i < (↑y.L.length : Int)) then
 bif decide ((0 : Int) ≤ i ∧ i < (↑y.L.length : Int)) then
 bif decide ((0 : Int) ≤ i ∧ i < (↑O.length : Int)) then
 bif O.length.beq O.length && Nat.ble 1 Try.prog.types[3].size then
 bif O.length.beq O.length then
 bif !decide (y.L.getD i.toNat (0 : Int) = O.getD i.toNat (0 : Int)) then
 bif decide ((0 : Int) ≤ i ∧ i < (↑O.length : Int)) then
 bif O.length.beq O.length && Nat.ble 1 Try.prog.types[3].size then
 bif O.length.beq O.length then
 bif decide ((0 : Int) ≤ i ∧ i < (↑y.L.length : Int)) then
 bif decide (O.getD i.toNat (0 : Int) < y.L.getD i.toNat (0 : Int)) then
 X VEx.ret [I i, VV.bool b, I co, VV.sl 1 O.length, I y.p, VV.tl y.L.length 1 (dG y.L), VV.bool false, VV.ptr (VA.own 0 0), VV.tl l.length 6 (byG l), I day, I need, I nit] [VB.cells [I m.wl, I m.wh, I m.nl, I m.nh, I m.r, I m.p] (66 : TypeId), VB.vec O.length (dG O) 1 (3 : TypeId)]
 else X (VEx.exit 4) [I i, VV.bool b, I co, VV.sl 1 O.length, I y.p, VV.tl y.L.length 1 (dG y.L), VV.bool false, VV.ptr (VA.own 0 0), VV.tl l.length 6 (byG l), I day, I need, I nit] [VB.cells [I m.wl, I m.wh, I m.nl, I m.nh, I m.r, I m.p] (66 : TypeId), VB.vec O.length (dG O) 1 (3 : TypeId)]
 else False
 else False
 else False
 else False
 else bif inK IntKind.i64 (i + (1 : Int)) then
 X VEx.normal [I (i + (1 : Int)), VV.bool b, I co, VV.sl 1 O.length, I y.p, VV.tl y.L.length 1 (dG y.L), VV.bool false, VV.ptr (VA.own 0 0), VV.tl l.length 6 (byG l), I day, I need, I nit] [VB.cells [I m.wl, I m.wh, I m.nl, I m.nh, I m.r, I m.p] (66 : TypeId), VB.vec O.length (dG O) 1 (3 : TypeId)]
 else False
 else False
 else False
 else False
 else False
 else X (VEx.exit 4) [I i, VV.bool b, I co, VV.sl 1 O.length, I y.p, VV.tl y.L.length 1 (dG y.L), VV.bool false, VV.ptr (VA.own 0 0), VV.tl l.length 6 (byG l), I day, I need, I nit] [VB.cells [I m.wl, I m.wh, I m.nl, I m.nh, I m.r, I m.p] (66 : TypeId), VB.vec O.length (dG O) 1 (3 : TypeId)]) := by kernel_rfl

def lQ (l : List By) (m : By) (day need nit : Int) (y : Sk) (O : List Int) (b : Bool) (co : Int) : LT := fun lock t h K =>
  FitP lock h t ⟨2, [0, 1].zip (BO m O)⟩ (dsQ.zip (VQ l day need nit y O.length b co 0)) ∧ (y.L.length = O.length ∧ O.length ≤ 100000 ∧ ¬ cmpL O y.L < 0) ∧
    ∀ i : Int, K .normal (dsQ.zip (VQ l day need nit y O.length b co i)) ⟨2, [0, 1].zip (BO m O)⟩
theorem f1_ev (l : List By) (B : List Int) (m : By) (day need nit : Int) (s : Nat) (y : Sk) (b : Bool) (co p2 e2 : Int) (O : List Int) (Q : VRes → Prop) : callN Try.prog (tabS [awT, grT (.tup [inD y.L, I y.p, I 0]) (.tup [.any, I p2, I e2]), lotsT, chT]) (atF 10 [(0, lOy l B m day need nit s y O), (2, lP l B m day need nit s y O b co), (4, lQ l m day need nit y O b co)]) 10 20 0 (.fn 10) [byD l, I day, I need, I nit, .int .u16 s, uD B, .agg (byL m)] ⟨0, []⟩ (fun r h => Q r) =
  (bif decide ((↑l.length : Int) > (12 : Int)) then
 Q (VRes.ret (VV.bool true))
 else bif decide ((↑B.length : Int) = (0 : Int)) then
 Q (VRes.ret (VV.bool true))
 else ∃ l_1, isT (VH.mk (0 + 1) [(0, VB.cells [I m.wl, I m.wh, I m.nl, I m.nh, I m.r, I m.p] 66)]) (VV.tl l.length 6 (byG l)) (byD l_1) ∧ gristR l_1 day need nit = VRes.ret (VV.tup [inD y.L, I y.p, I 0]) ∧ true = true ∧ true = true ∧ ∃ l_2, isT (VH.mk (0 + 1) [(0, VB.cells [I m.wl, I m.wh, I m.nl, I m.nh, I m.r, I m.p] 66)]) (VV.tl l.length 6 (byG l)) (byD l_2) ∧ l_2.length ≤ 100000 ∧ bif !(l_2.all okBy && decide (l_2.length ≤ 12)) then
 Q (VRes.ret (VV.bool false))
 else FitP 0 (VH.mk 1 ([0].zip [moB m])) (dsO.zip (VO l B day need nit (↑s : Int) (inD y.L) y.p (0 : Int) (0 : Int) VV.nils)) (VH.mk 1 ([0].zip [moB m])) (dsO.zip (VO l B day need nit (↑s : Int) (inD y.L) y.p (0 : Int) (0 : Int) VV.nils)) ∧ (l.length ≤ 12 ∧ O = oF s l.length) ∧ ∃ l_3 D, isT (VH.mk 2 ([0, 1].zip (BO m O))) (VV.tl l.length 6 (byG l)) (byD l_3) ∧ isT (VH.mk 2 ([0, 1].zip (BO m O))) (VV.sl 1 O.length) (inD D) ∧ (l_3.all okBy = true ∧ D.length ≤ 40 ∧ dOk D l_3.length ∧ (0 : Int) ≤ day ∧ (0 : Int) ≤ nit ∧ nit ≤ (10000 : Int)) ∧ ∀ (x : Sk), x = chF l_3 D D.length → FitP 0 (VH.mk 2 ([0, 1].zip (BO m O))) ((25, I 0) :: (24, I 0) :: (23, I 0) :: (22, I 0) :: (97, VV.bool false) :: (97, VV.bool !decide ((0 : Int) = (0 : Int))) :: (96, I 0) :: (21, VV.bool (fitS day need nit x)) :: (20, I x.p) :: (95, VV.bool (fitS day need nit x)) :: (94, I x.p) :: (87, VV.tup [I x.p, VV.bool (fitS day need nit x)]) :: (93, VV.tup [I x.p, VV.bool (fitS day need nit x)]) :: (92, I nit) :: (91, I need) :: (90, I day) :: (89, VV.sl 1 O.length) :: (88, VV.tl l.length 6 (byG l)) :: dsO.zip (VO l B day need nit (↑s : Int) (inD y.L) y.p (0 : Int) (↑l.length : Int) (VV.sl 1 O.length))) (VH.mk 2 ([0, 1].zip (BO m O))) (dsP.zip (VP l B day need nit (↑s : Int) y O.length b co (0 : Int) (0 : Int) (0 : Int) (0 : Int))) ∧ (l.all okBy = true ∧ uOk B ∧ yOk l day y.L) ∧ ∀ (x : Sk) (ri we : Int), x = chF l y.L y.L.length → x.w ≤ we ∧ we ≤ (12 : Int) * (91625968981 : Int) → (0 : Int) ≤ ri ∧ ri ≤ x.r → bif decide (we < need) then
 Q (VRes.ret (VV.bool false))
 else bif inK IntKind.i64 (nit * we) then
 bif decide (ri > nit * we) then
 Q (VRes.ret (VV.bool false))
 else bif !decide (x.p = y.p) then
 Q (VRes.ret (VV.bool false))
 else bif b then
 bif decide (co < y.p) then
 Q (VRes.ret (VV.bool false))
 else bif decide (co = y.p) then
 bif decide ((↑O.length : Int) < (↑y.L.length : Int)) then
 Q (VRes.ret (VV.bool false))
 else bif b then
 bif decide (co = y.p) then
 bif decide ((↑O.length : Int) = (↑y.L.length : Int)) then
 FitP 0 (VH.mk 2 ([0, 1].zip (BO m O))) (dsQ.zip (VQ l day need nit y O.length b co (0 : Int))) (VH.mk 2 ([0, 1].zip (BO m O))) (dsQ.zip (VQ l day need nit y O.length b co (0 : Int))) ∧ (y.L.length = O.length ∧ O.length ≤ 100000 ∧ ¬cmpL O y.L < (0 : Int)) ∧ ∀ (i : Int), bif roomB (0 + l.length) (48) then
 bif (0 + l.length).beq (0 + l.length) then
 bif roomB (0 + l.length + 1) (48) then
 ∃ l_4, isT (VH.mk (4) ((2, VB.vec (0 + l.length + 1) (catG (0 + l.length) (catG 0 (fun j => List.take (6) (List.drop (j * (6)) [])) (byG l)) fun j => List.take (6) (List.drop (j * (6)) [I m.wl, I m.wh, I m.nl, I m.nh, I m.r, I m.p])) (6) 66) :: (3, VB.vec 1 (fun j => List.take (6) (List.drop (j * (6)) [I m.wl, I m.wh, I m.nl, I m.nh, I m.r, I m.p])) (6) 66) :: (2, VB.vec (0 + l.length) (catG 0 (fun j => List.take (6) (List.drop (j * (6)) [])) (byG l)) (6) 66) :: (2, VB.vec 0 (fun j => List.take (6) (List.drop (j * (6)) [])) (6) 66) :: [0, 1].zip (BO m O))) (VV.sl (2) (0 + l.length + 1)) (byD l_4) ∧ anyV (gristR l_4 day need nit) = VV.tup [VV.any, I p2, I e2] ∧ bif !decide (e2 = (0 : Int)) then
 bif !decide (e2 = (4 : Int)) then
 Q (VRes.ret (VV.bool true))
 else Q (VRes.ret (VV.bool false))
 else bif decide (p2 ≤ y.p) then
 bif !decide (e2 = (4 : Int)) then
 Q (VRes.ret (VV.bool true))
 else Q (VRes.ret (VV.bool false))
 else Q (VRes.ret (VV.bool false))
 else False
 else False
 else False
 else bif roomB (0 + l.length) (48) then
 bif (0 + l.length).beq (0 + l.length) then
 bif roomB (0 + l.length + 1) (48) then
 ∃ l_4, isT (VH.mk (4) ((2, VB.vec (0 + l.length + 1) (catG (0 + l.length) (catG 0 (fun j => List.take (6) (List.drop (j * (6)) [])) (byG l)) fun j => List.take (6) (List.drop (j * (6)) [I m.wl, I m.wh, I m.nl, I m.nh, I m.r, I m.p])) (6) 66) :: (3, VB.vec 1 (fun j => List.take (6) (List.drop (j * (6)) [I m.wl, I m.wh, I m.nl, I m.nh, I m.r, I m.p])) (6) 66) :: (2, VB.vec (0 + l.length) (catG 0 (fun j => List.take (6) (List.drop (j * (6)) [])) (byG l)) (6) 66) :: (2, VB.vec 0 (fun j => List.take (6) (List.drop (j * (6)) [])) (6) 66) :: [0, 1].zip (BO m O))) (VV.sl (2) (0 + l.length + 1)) (byD l_4) ∧ anyV (gristR l_4 day need nit) = VV.tup [VV.any, I p2, I e2] ∧ bif !decide (e2 = (0 : Int)) then
 bif !decide (e2 = (4 : Int)) then
 Q (VRes.ret (VV.bool true))
 else Q (VRes.ret (VV.bool false))
 else bif decide (p2 ≤ y.p) then
 bif !decide (e2 = (4 : Int)) then
 Q (VRes.ret (VV.bool true))
 else Q (VRes.ret (VV.bool false))
 else Q (VRes.ret (VV.bool false))
 else False
 else False
 else False
 else bif roomB (0 + l.length) (48) then
 bif (0 + l.length).beq (0 + l.length) then
 bif roomB (0 + l.length + 1) (48) then
 ∃ l_4, isT (VH.mk (4) ((2, VB.vec (0 + l.length + 1) (catG (0 + l.length) (catG 0 (fun j => List.take (6) (List.drop (j * (6)) [])) (byG l)) fun j => List.take (6) (List.drop (j * (6)) [I m.wl, I m.wh, I m.nl, I m.nh, I m.r, I m.p])) (6) 66) :: (3, VB.vec 1 (fun j => List.take (6) (List.drop (j * (6)) [I m.wl, I m.wh, I m.nl, I m.nh, I m.r, I m.p])) (6) 66) :: (2, VB.vec (0 + l.length) (catG 0 (fun j => List.take (6) (List.drop (j * (6)) [])) (byG l)) (6) 66) :: (2, VB.vec 0 (fun j => List.take (6) (List.drop (j * (6)) [])) (6) 66) :: [0, 1].zip (BO m O))) (VV.sl (2) (0 + l.length + 1)) (byD l_4) ∧ anyV (gristR l_4 day need nit) = VV.tup [VV.any, I p2, I e2] ∧ bif !decide (e2 = (0 : Int)) then
 bif !decide (e2 = (4 : Int)) then
 Q (VRes.ret (VV.bool true))
 else Q (VRes.ret (VV.bool false))
 else bif decide (p2 ≤ y.p) then
 bif !decide (e2 = (4 : Int)) then
 Q (VRes.ret (VV.bool true))
 else Q (VRes.ret (VV.bool false))
 else Q (VRes.ret (VV.bool false))
 else False
 else False
 else False
 else bif roomB (0 + l.length) (48) then
 bif (0 + l.length).beq (0 + l.length) then
 bif roomB (0 + l.length + 1) (48) then
 ∃ l_4, isT (VH.mk (4) ((2, VB.vec (0 + l.length + 1) (catG (0 + l.length) (catG 0 (fun j => List.take (6) (List.drop (j * (6)) [])) (byG l)) fun j => List.take (6) (List.drop (j * (6)) [I m.wl, I m.wh, I m.nl, I m.nh, I m.r, I m.p])) (6) 66) :: (3, VB.vec 1 (fun j => List.take (6) (List.drop (j * (6)) [I m.wl, I m.wh, I m.nl, I m.nh, I m.r, I m.p])) (6) 66) :: (2, VB.vec (0 + l.length) (catG 0 (fun j => List.take (6) (List.drop (j * (6)) [])) (byG l)) (6) 66) :: (2, VB.vec 0 (fun j => List.take (6) (List.drop (j * (6)) [])) (6) 66) :: [0, 1].zip (BO m O))) (VV.sl (2) (0 + l.length + 1)) (byD l_4) ∧ anyV (gristR l_4 day need nit) = VV.tup [VV.any, I p2, I e2] ∧ bif !decide (e2 = (0 : Int)) then
 bif !decide (e2 = (4 : Int)) then
 Q (VRes.ret (VV.bool true))
 else Q (VRes.ret (VV.bool false))
 else bif decide (p2 ≤ y.p) then
 bif !decide (e2 = (4 : Int)) then
 Q (VRes.ret (VV.bool true))
 else Q (VRes.ret (VV.bool false))
 else Q (VRes.ret (VV.bool false))
 else False
 else False
 else False
 else bif b then
 bif decide (co = y.p) then
 bif decide ((↑O.length : Int) = (↑y.L.length : Int)) then
 FitP 0 (VH.mk 2 ([0, 1].zip (BO m O))) (dsQ.zip (VQ l day need nit y O.length b co (0 : Int))) (VH.mk 2 ([0, 1].zip (BO m O))) (dsQ.zip (VQ l day need nit y O.length b co (0 : Int))) ∧ (y.L.length = O.length ∧ O.length ≤ 100000 ∧ ¬cmpL O y.L < (0 : Int)) ∧ ∀ (i : Int), bif roomB (0 + l.length) (48) then
 bif (0 + l.length).beq (0 + l.length) then
 bif roomB (0 + l.length + 1) (48) then
 ∃ l_4, isT (VH.mk (4) ((2, VB.vec (0 + l.length + 1) (catG (0 + l.length) (catG 0 (fun j => List.take (6) (List.drop (j * (6)) [])) (byG l)) fun j => List.take (6) (List.drop (j * (6)) [I m.wl, I m.wh, I m.nl, I m.nh, I m.r, I m.p])) (6) 66) :: (3, VB.vec 1 (fun j => List.take (6) (List.drop (j * (6)) [I m.wl, I m.wh, I m.nl, I m.nh, I m.r, I m.p])) (6) 66) :: (2, VB.vec (0 + l.length) (catG 0 (fun j => List.take (6) (List.drop (j * (6)) [])) (byG l)) (6) 66) :: (2, VB.vec 0 (fun j => List.take (6) (List.drop (j * (6)) [])) (6) 66) :: [0, 1].zip (BO m O))) (VV.sl (2) (0 + l.length + 1)) (byD l_4) ∧ anyV (gristR l_4 day need nit) = VV.tup [VV.any, I p2, I e2] ∧ bif !decide (e2 = (0 : Int)) then
 bif !decide (e2 = (4 : Int)) then
 Q (VRes.ret (VV.bool true))
 else Q (VRes.ret (VV.bool false))
 else bif decide (p2 ≤ y.p) then
 bif !decide (e2 = (4 : Int)) then
 Q (VRes.ret (VV.bool true))
 else Q (VRes.ret (VV.bool false))
 else Q (VRes.ret (VV.bool false))
 else False
 else False
 else False
 else bif roomB (0 + l.length) (48) then
 bif (0 + l.length).beq (0 + l.length) then
 bif roomB (0 + l.length + 1) (48) then
 ∃ l_4, isT (VH.mk (4) ((2, VB.vec (0 + l.length + 1) (catG (0 + l.length) (catG 0 (fun j => List.take (6) (List.drop (j * (6)) [])) (byG l)) fun j => List.take (6) (List.drop (j * (6)) [I m.wl, I m.wh, I m.nl, I m.nh, I m.r, I m.p])) (6) 66) :: (3, VB.vec 1 (fun j => List.take (6) (List.drop (j * (6)) [I m.wl, I m.wh, I m.nl, I m.nh, I m.r, I m.p])) (6) 66) :: (2, VB.vec (0 + l.length) (catG 0 (fun j => List.take (6) (List.drop (j * (6)) [])) (byG l)) (6) 66) :: (2, VB.vec 0 (fun j => List.take (6) (List.drop (j * (6)) [])) (6) 66) :: [0, 1].zip (BO m O))) (VV.sl (2) (0 + l.length + 1)) (byD l_4) ∧ anyV (gristR l_4 day need nit) = VV.tup [VV.any, I p2, I e2] ∧ bif !decide (e2 = (0 : Int)) then
 bif !decide (e2 = (4 : Int)) then
 Q (VRes.ret (VV.bool true))
 else Q (VRes.ret (VV.bool false))
 else bif decide (p2 ≤ y.p) then
 bif !decide (e2 = (4 : Int)) then
 Q (VRes.ret (VV.bool true))
 else Q (VRes.ret (VV.bool false))
 else Q (VRes.ret (VV.bool false))
 else False
 else False
 else False
 else bif roomB (0 + l.length) (48) then
 bif (0 + l.length).beq (0 + l.length) then
 bif roomB (0 + l.length + 1) (48) then
 ∃ l_4, isT (VH.mk (4) ((2, VB.vec (0 + l.length + 1) (catG (0 + l.length) (catG 0 (fun j => List.take (6) (List.drop (j * (6)) [])) (byG l)) fun j => List.take (6) (List.drop (j * (6)) [I m.wl, I m.wh, I m.nl, I m.nh, I m.r, I m.p])) (6) 66) :: (3, VB.vec 1 (fun j => List.take (6) (List.drop (j * (6)) [I m.wl, I m.wh, I m.nl, I m.nh, I m.r, I m.p])) (6) 66) :: (2, VB.vec (0 + l.length) (catG 0 (fun j => List.take (6) (List.drop (j * (6)) [])) (byG l)) (6) 66) :: (2, VB.vec 0 (fun j => List.take (6) (List.drop (j * (6)) [])) (6) 66) :: [0, 1].zip (BO m O))) (VV.sl (2) (0 + l.length + 1)) (byD l_4) ∧ anyV (gristR l_4 day need nit) = VV.tup [VV.any, I p2, I e2] ∧ bif !decide (e2 = (0 : Int)) then
 bif !decide (e2 = (4 : Int)) then
 Q (VRes.ret (VV.bool true))
 else Q (VRes.ret (VV.bool false))
 else bif decide (p2 ≤ y.p) then
 bif !decide (e2 = (4 : Int)) then
 Q (VRes.ret (VV.bool true))
 else Q (VRes.ret (VV.bool false))
 else Q (VRes.ret (VV.bool false))
 else False
 else False
 else False
 else bif roomB (0 + l.length) (48) then
 bif (0 + l.length).beq (0 + l.length) then
 bif roomB (0 + l.length + 1) (48) then
 ∃ l_4, isT (VH.mk (4) ((2, VB.vec (0 + l.length + 1) (catG (0 + l.length) (catG 0 (fun j => List.take (6) (List.drop (j * (6)) [])) (byG l)) fun j => List.take (6) (List.drop (j * (6)) [I m.wl, I m.wh, I m.nl, I m.nh, I m.r, I m.p])) (6) 66) :: (3, VB.vec 1 (fun j => List.take (6) (List.drop (j * (6)) [I m.wl, I m.wh, I m.nl, I m.nh, I m.r, I m.p])) (6) 66) :: (2, VB.vec (0 + l.length) (catG 0 (fun j => List.take (6) (List.drop (j * (6)) [])) (byG l)) (6) 66) :: (2, VB.vec 0 (fun j => List.take (6) (List.drop (j * (6)) [])) (6) 66) :: [0, 1].zip (BO m O))) (VV.sl (2) (0 + l.length + 1)) (byD l_4) ∧ anyV (gristR l_4 day need nit) = VV.tup [VV.any, I p2, I e2] ∧ bif !decide (e2 = (0 : Int)) then
 bif !decide (e2 = (4 : Int)) then
 Q (VRes.ret (VV.bool true))
 else Q (VRes.ret (VV.bool false))
 else bif decide (p2 ≤ y.p) then
 bif !decide (e2 = (4 : Int)) then
 Q (VRes.ret (VV.bool true))
 else Q (VRes.ret (VV.bool false))
 else Q (VRes.ret (VV.bool false))
 else False
 else False
 else False
 else bif b then
 bif decide (co = y.p) then
 bif decide ((↑O.length : Int) = (↑y.L.length : Int)) then
 FitP 0 (VH.mk 2 ([0, 1].zip (BO m O))) (dsQ.zip (VQ l day need nit y O.length b co (0 : Int))) (VH.mk 2 ([0, 1].zip (BO m O))) (dsQ.zip (VQ l day need nit y O.length b co (0 : Int))) ∧ (y.L.length = O.length ∧ O.length ≤ 100000 ∧ ¬cmpL O y.L < (0 : Int)) ∧ ∀ (i : Int), bif roomB (0 + l.length) (48) then
 bif (0 + l.length).beq (0 + l.length) then
 bif roomB (0 + l.length + 1) (48) then
 ∃ l_4, isT (VH.mk (4) ((2, VB.vec (0 + l.length + 1) (catG (0 + l.length) (catG 0 (fun j => List.take (6) (List.drop (j * (6)) [])) (byG l)) fun j => List.take (6) (List.drop (j * (6)) [I m.wl, I m.wh, I m.nl, I m.nh, I m.r, I m.p])) (6) 66) :: (3, VB.vec 1 (fun j => List.take (6) (List.drop (j * (6)) [I m.wl, I m.wh, I m.nl, I m.nh, I m.r, I m.p])) (6) 66) :: (2, VB.vec (0 + l.length) (catG 0 (fun j => List.take (6) (List.drop (j * (6)) [])) (byG l)) (6) 66) :: (2, VB.vec 0 (fun j => List.take (6) (List.drop (j * (6)) [])) (6) 66) :: [0, 1].zip (BO m O))) (VV.sl (2) (0 + l.length + 1)) (byD l_4) ∧ anyV (gristR l_4 day need nit) = VV.tup [VV.any, I p2, I e2] ∧ bif !decide (e2 = (0 : Int)) then
 bif !decide (e2 = (4 : Int)) then
 Q (VRes.ret (VV.bool true))
 else Q (VRes.ret (VV.bool false))
 else bif decide (p2 ≤ y.p) then
 bif !decide (e2 = (4 : Int)) then
 Q (VRes.ret (VV.bool true))
 else Q (VRes.ret (VV.bool false))
 else Q (VRes.ret (VV.bool false))
 else False
 else False
 else False
 else bif roomB (0 + l.length) (48) then
 bif (0 + l.length).beq (0 + l.length) then
 bif roomB (0 + l.length + 1) (48) then
 ∃ l_4, isT (VH.mk (4) ((2, VB.vec (0 + l.length + 1) (catG (0 + l.length) (catG 0 (fun j => List.take (6) (List.drop (j * (6)) [])) (byG l)) fun j => List.take (6) (List.drop (j * (6)) [I m.wl, I m.wh, I m.nl, I m.nh, I m.r, I m.p])) (6) 66) :: (3, VB.vec 1 (fun j => List.take (6) (List.drop (j * (6)) [I m.wl, I m.wh, I m.nl, I m.nh, I m.r, I m.p])) (6) 66) :: (2, VB.vec (0 + l.length) (catG 0 (fun j => List.take (6) (List.drop (j * (6)) [])) (byG l)) (6) 66) :: (2, VB.vec 0 (fun j => List.take (6) (List.drop (j * (6)) [])) (6) 66) :: [0, 1].zip (BO m O))) (VV.sl (2) (0 + l.length + 1)) (byD l_4) ∧ anyV (gristR l_4 day need nit) = VV.tup [VV.any, I p2, I e2] ∧ bif !decide (e2 = (0 : Int)) then
 bif !decide (e2 = (4 : Int)) then
 Q (VRes.ret (VV.bool true))
 else Q (VRes.ret (VV.bool false))
 else bif decide (p2 ≤ y.p) then
 bif !decide (e2 = (4 : Int)) then
 Q (VRes.ret (VV.bool true))
 else Q (VRes.ret (VV.bool false))
 else Q (VRes.ret (VV.bool false))
 else False
 else False
 else False
 else bif roomB (0 + l.length) (48) then
 bif (0 + l.length).beq (0 + l.length) then
 bif roomB (0 + l.length + 1) (48) then
 ∃ l_4, isT (VH.mk (4) ((2, VB.vec (0 + l.length + 1) (catG (0 + l.length) (catG 0 (fun j => List.take (6) (List.drop (j * (6)) [])) (byG l)) fun j => List.take (6) (List.drop (j * (6)) [I m.wl, I m.wh, I m.nl, I m.nh, I m.r, I m.p])) (6) 66) :: (3, VB.vec 1 (fun j => List.take (6) (List.drop (j * (6)) [I m.wl, I m.wh, I m.nl, I m.nh, I m.r, I m.p])) (6) 66) :: (2, VB.vec (0 + l.length) (catG 0 (fun j => List.take (6) (List.drop (j * (6)) [])) (byG l)) (6) 66) :: (2, VB.vec 0 (fun j => List.take (6) (List.drop (j * (6)) [])) (6) 66) :: [0, 1].zip (BO m O))) (VV.sl (2) (0 + l.length + 1)) (byD l_4) ∧ anyV (gristR l_4 day need nit) = VV.tup [VV.any, I p2, I e2] ∧ bif !decide (e2 = (0 : Int)) then
 bif !decide (e2 = (4 : Int)) then
 Q (VRes.ret (VV.bool true))
 else Q (VRes.ret (VV.bool false))
 else bif decide (p2 ≤ y.p) then
 bif !decide (e2 = (4 : Int)) then
 Q (VRes.ret (VV.bool true))
 else Q (VRes.ret (VV.bool false))
 else Q (VRes.ret (VV.bool false))
 else False
 else False
 else False
 else bif roomB (0 + l.length) (48) then
 bif (0 + l.length).beq (0 + l.length) then
 bif roomB (0 + l.length + 1) (48) then
 ∃ l_4, isT (VH.mk (4) ((2, VB.vec (0 + l.length + 1) (catG (0 + l.length) (catG 0 (fun j => List.take (6) (List.drop (j * (6)) [])) (byG l)) fun j => List.take (6) (List.drop (j * (6)) [I m.wl, I m.wh, I m.nl, I m.nh, I m.r, I m.p])) (6) 66) :: (3, VB.vec 1 (fun j => List.take (6) (List.drop (j * (6)) [I m.wl, I m.wh, I m.nl, I m.nh, I m.r, I m.p])) (6) 66) :: (2, VB.vec (0 + l.length) (catG 0 (fun j => List.take (6) (List.drop (j * (6)) [])) (byG l)) (6) 66) :: (2, VB.vec 0 (fun j => List.take (6) (List.drop (j * (6)) [])) (6) 66) :: [0, 1].zip (BO m O))) (VV.sl (2) (0 + l.length + 1)) (byD l_4) ∧ anyV (gristR l_4 day need nit) = VV.tup [VV.any, I p2, I e2] ∧ bif !decide (e2 = (0 : Int)) then
 bif !decide (e2 = (4 : Int)) then
 Q (VRes.ret (VV.bool true))
 else Q (VRes.ret (VV.bool false))
 else bif decide (p2 ≤ y.p) then
 bif !decide (e2 = (4 : Int)) then
 Q (VRes.ret (VV.bool true))
 else Q (VRes.ret (VV.bool false))
 else Q (VRes.ret (VV.bool false))
 else False
 else False
 else False
 else False) := by kernel_rfl


end Go.Sx.Grs

/- malt: MaltCheapest, the loops. -/

namespace Go.Sx.Grs
open Go Go.Sx Go.Proofs
set_option maxRecDepth 1000000

theorem bit16_v {s k : Nat} (hk : k < 16) : (remZ ((s : Int).fdiv ((2 : Int) ^ min k IntKind.u16.bits)) (2 : Int) = 1) ↔ s.testBit k = true := by
  have e1 : IntKind.u16.bits = 16 := rfl
  rw [e1, Nat.min_eq_left (by omega)]
  have e2 : (s : Int).fdiv ((2 : Int) ^ k) = ((s / 2 ^ k : Nat) : Int) := by
    rw [Int.fdiv_eq_ediv_of_nonneg _ (by exact_mod_cast Nat.zero_le _)]
    rw [show ((2 : Int) ^ k) = ((2 ^ k : Nat) : Int) by push_cast; rfl]
    rfl
  rw [e2, Nat.testBit_eq_decide_div_mod_eq]
  generalize s / 2 ^ k = q
  rw [remZ_nn (by omega), decide_eq_true_eq]
  omega

theorem oF_len (s : Nat) : ∀ k, (oF s k).length ≤ k
  | 0 => Nat.le_refl _
  | k + 1 => by
    unfold oF
    have := oF_len s k
    split
    · rw [List.length_append, List.length_singleton]; omega
    · omega

section
variable {l : List By} {B : List Int} {m : By} {day need nit : Int} {s : Nat} {y : Sk} {O : List Int} {b : Bool} {co : Int}

theorem lOns_ok : LSound Try.prog true (.block 0 (.loop (loopB 0 (bodyOf Try.prog 10)))) 312 (lOns l B m day need nit s O) := by
  by_cases hn : l.length ≤ 12 ∧ O = oF s l.length
  · obtain ⟨hn, rfl⟩ := hn
    refine loop_row hmix good0 (un := 10) (ds := dsO) (ns := [0, 1]) (nx := 2) (fun k : Nat => VO l B day need nit s .nils 0 4 k (.sl 1 (oF s k).length)) (fun k => BO m (oF s k)) (fun k => k ≤ l.length) (fun k => l.length - k) (fun _ e vs bs => e = .exit 0 ∧ vs = VO l B day need nit s .nils 0 4 l.length (.sl 1 (oF s l.length).length) ∧ bs = BO m (oF s l.length)) noL_ok ?_ ?_
    · rintro k h0
      refine cast (otn_ev l B m day need nit s k _ _).symm ?_
      by_cases hlt : k < l.length
      · have h1 := oF_len s k
        refine cond_dk (by omega) (cond_d (fun h => by omega) (fun _ => ?_))
        rw [show (k : Int).toNat = k by omega]
        refine cond_d (fun hb => ?_) (fun hb => ?_)
        · have hb := (bit16_v (by omega)).1 hb
          have hf : oF s (k + 1) = oF s k ++ [(k : Int)] := by
            conv => lhs; unfold oF
            rw [if_pos hb]
          refine cond_k (Nat.beq_refl _) (cond_k (room8 (by omega)) (cond_r (by omega) ⟨k + 1, by omega, by dsimp only; omega, ?_, ?_, fun _ _ _ h => h⟩))
          · dsimp only
            rw [hf, List.length_append]; rfl
          · dsimp only
            rw [hf]
            exact ⟨VB.fit_refl _, fit_one, trivial⟩
        · have hb : ¬ s.testBit k = true := fun h => hb ((bit16_v (by omega)).2 h)
          have hf : oF s (k + 1) = oF s k := by
            conv => lhs; unfold oF
            rw [if_neg hb]
          refine cond_r (by omega) ⟨k + 1, by omega, by dsimp only; omega, ?_, ?_, fun _ _ _ h => h⟩
          · dsimp only
            rw [hf]; rfl
          · dsimp only
            rw [hf]
            exact fitBs_refl _
      · obtain rfl : k = l.length := by omega
        exact cond_d (fun h => by omega) (fun _ => ⟨rfl, rfl, rfl⟩)
    · rintro lock t h K ⟨hf, _, k1⟩
      refine ⟨0, hf, Nat.zero_le _, ?_⟩
      rintro e vs bs ⟨rfl, rfl, rfl⟩
      exact k1
  · rintro lock t h K ⟨hf, hc, _⟩
    exact (hn hc).elim

theorem lOn_ok : LSound Try.prog true (.block 0 (.loop (loopB 0 (bodyOf Try.prog 10)))) 312 (lOn l B m day need nit s O) :=
  ghost_row (d := 18) (nx := 1) (bs := [0].zip [moB m]) (t0 := [19, 17, 16, 15, 14, 13, 0, 1, 2, 3, 4, 5].zip [I 0, I 4, I 0, .nils, .bool false, .ptr (.own 0 0), byD l, I day, I need, I nit, .int .u16 s, uD B]) (dG []) 1 3 lOns_ok (by
    rintro lock t h K ⟨hf, hi, hK⟩
    refine ⟨⟨hf.1, ?_⟩, ⟨⟨rfl, rfl, VB.fit_refl _, VB.fit_refl _, trivial⟩, ?_⟩, hi, hK⟩
    · obtain ⟨h1, h2, h3⟩ := hf.2
      exact ⟨h2, h1, h3⟩
    · exact ⟨rfl, rfl, rfl, rfl, rfl, rfl, rfl, rfl, rfl, rfl, rfl, rfl, rfl, trivial⟩)

theorem lOys_ok : LSound Try.prog true (.block 0 (.loop (loopB 0 (bodyOf Try.prog 10)))) 312 (lOys l B m day need nit s y O) := by
  by_cases hn : l.length ≤ 12 ∧ O = oF s l.length
  · obtain ⟨hn, rfl⟩ := hn
    refine loop_row hmix good0 (un := 10) (ds := dsO) (ns := [0, 1]) (nx := 2) (fun k : Nat => VO l B day need nit s (inD y.L) y.p 0 k (.sl 1 (oF s k).length)) (fun k => BO m (oF s k)) (fun k => k ≤ l.length) (fun k => l.length - k) (fun _ e vs bs => e = .exit 0 ∧ vs = VO l B day need nit s (inD y.L) y.p 0 l.length (.sl 1 (oF s l.length).length) ∧ bs = BO m (oF s l.length)) noL_ok ?_ ?_
    · rintro k h0
      refine cast (oty_ev l B m day need nit s y k _ _).symm ?_
      by_cases hlt : k < l.length
      · have h1 := oF_len s k
        refine cond_dk (by omega) (cond_d (fun h => by omega) (fun _ => ?_))
        rw [show (k : Int).toNat = k by omega]
        refine cond_d (fun hb => ?_) (fun hb => ?_)
        · have hb := (bit16_v (by omega)).1 hb
          have hf : oF s (k + 1) = oF s k ++ [(k : Int)] := by
            conv => lhs; unfold oF
            rw [if_pos hb]
          refine cond_k (Nat.beq_refl _) (cond_k (room8 (by omega)) (cond_r (by omega) ⟨k + 1, by omega, by dsimp only; omega, ?_, ?_, fun _ _ _ h => h⟩))
          · dsimp only
            rw [hf, List.length_append]; rfl
          · dsimp only
            rw [hf]
            exact ⟨VB.fit_refl _, fit_one, trivial⟩
        · have hb : ¬ s.testBit k = true := fun h => hb ((bit16_v (by omega)).2 h)
          have hf : oF s (k + 1) = oF s k := by
            conv => lhs; unfold oF
            rw [if_neg hb]
          refine cond_r (by omega) ⟨k + 1, by omega, by dsimp only; omega, ?_, ?_, fun _ _ _ h => h⟩
          · dsimp only
            rw [hf]; rfl
          · dsimp only
            rw [hf]
            exact fitBs_refl _
      · obtain rfl : k = l.length := by omega
        exact cond_d (fun h => by omega) (fun _ => ⟨rfl, rfl, rfl⟩)
    · rintro lock t h K ⟨hf, _, k1⟩
      refine ⟨0, hf, Nat.zero_le _, ?_⟩
      rintro e vs bs ⟨rfl, rfl, rfl⟩
      exact k1
  · rintro lock t h K ⟨hf, hc, _⟩
    exact (hn hc).elim

theorem lOy_ok : LSound Try.prog true (.block 0 (.loop (loopB 0 (bodyOf Try.prog 10)))) 312 (lOy l B m day need nit s y O) :=
  ghost_row (d := 18) (nx := 1) (bs := [0].zip [moB m]) (t0 := [19, 17, 16, 15, 14, 13, 0, 1, 2, 3, 4, 5].zip [I 0, I 0, I y.p, (inD y.L), .bool false, .ptr (.own 0 0), byD l, I day, I need, I nit, .int .u16 s, uD B]) (dG []) 1 3 lOys_ok (by
    rintro lock t h K ⟨hf, hi, hK⟩
    refine ⟨⟨hf.1, ?_⟩, ⟨⟨rfl, rfl, VB.fit_refl _, VB.fit_refl _, trivial⟩, ?_⟩, hi, hK⟩
    · obtain ⟨h1, h2, h3⟩ := hf.2
      exact ⟨h2, h1, h3⟩
    · exact ⟨rfl, rfl, rfl, rfl, rfl, rfl, rfl, rfl, rfl, rfl, rfl, rfl, rfl, trivial⟩)

/-- The round over the lots that were chosen. -/
structure PS where
  k : Nat
  ri : Int
  we : Int

theorem pk_tab : ∀ f T, tabS [pickT] f = some T → SpOk Try.prog f T := tab_ok _ (fun x hx => by
  simp only [List.mem_singleton] at hx
  subst hx
  exact pickT_ok)
theorem pk_good : Good Try.prog (callN Try.prog (tabS [pickT]) noL 10 20) := callN_good hmix pk_tab (fun _ _ _ _ _ _ _ h => by cases h) 20

def invP (l : List By) (y : Sk) (p : PS) : Prop := p.k ≤ y.L.length ∧ ((chF l y.L p.k).w ≤ p.we ∧ p.we ≤ p.k * 91625968981) ∧ 0 ≤ p.ri ∧ p.ri ≤ (chF l y.L p.k).r
def outP (l : List By) (B : List Int) (m : By) (day need nit : Int) (s : Nat) (y : Sk) (O : List Int) (b : Bool) (co : Int) (_ : PS) (e : VEx) (vs : List VV) (bs : List VB) : Prop := e = .exit 2 ∧ bs = BO m O ∧ ∃ ri we : Int, ((chF l y.L y.L.length).w ≤ we ∧ we ≤ 12 * 91625968981) ∧ (0 ≤ ri ∧ ri ≤ (chF l y.L y.L.length).r) ∧ vs = VP l B day need nit s y O.length b co y.L.length (chF l y.L y.L.length).p ri we
theorem lP_ok : LSound Try.prog true (.block 2 (.loop (loopB 2 (bodyOf Try.prog 10)))) 312 (lP l B m day need nit s y O b co) := by
  by_cases hn : l.all okBy = true ∧ uOk B ∧ yOk l day y.L
  · obtain ⟨hl, ⟨hB0, hB⟩, hy0, hy1, hy2⟩ := hn
    have hD : dOk y.L l.length := fun x hx => by
      obtain ⟨j, hj, rfl⟩ := List.getElem_of_mem hx
      have := hy1 j hj
      rw [List.getD_eq_getElem?_getD, List.getElem?_eq_getElem hj] at this
      exact ⟨this.1, this.2.1⟩
    refine loop_row hmix pk_good (un := 10) (ds := dsP) (ns := [0, 1]) (nx := 2) (fun p : PS => VP l B day need nit s y O.length b co p.k (chF l y.L p.k).p p.ri p.we) (fun _ => BO m O) (invP l y) (fun p => y.L.length - p.k) (outP l B m day need nit s y O b co) noL_ok ?_ ?_
    · rintro ⟨k, ri, we⟩ ⟨h0, ⟨g1, g2⟩, g3, g4⟩
      dsimp only at h0 g1 g2 g3 g4 ⊢
      refine cast (pk_ev l B m day need nit s y O b co k _ _ _ _).symm ?_
      by_cases hlt : k < y.L.length
      · obtain ⟨d1, d2, d3⟩ := hy1 k hlt
        have hk2 : (y.L.getD k 0).toNat < l.length := by omega
        obtain ⟨h1, ⟨h2, h3⟩, ⟨h4, h5⟩, ⟨h6, h7⟩, ⟨h8, h9⟩⟩ := chF_bd hl hD k (by omega)
        obtain ⟨⟨q1, q2, q3⟩, ⟨n1, n2, n3⟩, ⟨q4, q5⟩, q6, q7⟩ := ok_bd (ok_get hl hk2)
        obtain ⟨q8, q9⟩ := ok_rich (ok_get hl hk2)
        have hin : (0 : Int) ≤ k ∧ (k : Int) < y.L.length := ⟨by omega, by omega⟩
        have hid : (0 : Int) ≤ y.L.getD k 0 ∧ y.L.getD k 0 < l.length := ⟨d1, d2⟩
        refine cond_dk (by omega) (cond_dk hin ?_)
        have eA : atL l y k = l.getD (y.L.getD k 0).toNat b0 := by
          unfold atL
          rw [Int.toNat_natCast]
        rw [eA, show (k : Int).toNat = k by omega]
        have r1 := remZ_bd (a := (k : Int)) (m := (B.length : Int)) (by omega) (by omega)
        have r2 := remZ_bd (a := (k : Int) + 1) (m := (B.length : Int)) (by omega) (by omega)
        have fin : ∀ v u : Int, (l.getD (y.L.getD k 0).toNat b0).wl ≤ v → v ≤ (l.getD (y.L.getD k 0).toNat b0).wh → (l.getD (y.L.getD k 0).toNat b0).nl ≤ u → u ≤ (l.getD (y.L.getD k 0).toNat b0).nh →
            (0 ≤ v * u ∧ v * u ≤ 916259689810000) ∧ RoundQ (fun p : PS => VP l B day need nit s y O.length b co p.k (chF l y.L p.k).p p.ri p.we) (fun _ => BO m O) (invP l y) (fun p => y.L.length - p.k) (outP l B m day need nit s y O b co) ⟨k, ri, we⟩ .normal (VP l B day need nit s y O.length b co (k + 1) ((chF l y.L k).p + (l.getD (y.L.getD k 0).toNat b0).p) (ri + v * u) (we + v)) (BO m O) := by
          intro v u v1 v2 u1 u2
          have e1 : v * u ≤ (l.getD (y.L.getD k 0).toNat b0).wh * (l.getD (y.L.getD k 0).toNat b0).nh := by
            calc v * u ≤ (l.getD (y.L.getD k 0).toNat b0).wh * u := Int.mul_le_mul_of_nonneg_right v2 (by omega)
              _ ≤ (l.getD (y.L.getD k 0).toNat b0).wh * (l.getD (y.L.getD k 0).toNat b0).nh := Int.mul_le_mul_of_nonneg_left u2 (by omega)
          have e2 : 0 ≤ v * u := Int.mul_nonneg (by omega) (by omega)
          refine ⟨⟨e2, by omega⟩, ⟨k + 1, ri + v * u, we + v⟩, ⟨by dsimp only; omega, ⟨?_, ?_⟩, ?_, ?_⟩, by dsimp only; omega, rfl, fitBs_refl _, fun _ _ _ h => h⟩
          · show (chF l y.L k).w + (l.getD (y.L.getD k 0).toNat b0).wl ≤ we + v
            omega
          · dsimp only; omega
          · dsimp only; omega
          · show ri + v * u ≤ (chF l y.L k).r + (l.getD (y.L.getD k 0).toNat b0).wh * (l.getD (y.L.getD k 0).toNat b0).nh
            omega
        refine cond_d (fun h => by omega) (fun _ => cond_d (fun h => by omega) (fun _ => cond_d (fun hk => cond_r (by omega) (cond_dk ⟨by omega, by omega⟩ (cond_d (fun h => ?_) (fun _ => ?_)))) (fun hk => ?_)))
        · exfalso
          obtain ⟨j, rfl⟩ : ∃ j, k = j + 1 := ⟨k - 1, by omega⟩
          have := hy2 j hlt
          rw [show (((j + 1 : Nat) : Int) - 1).toNat = j by omega] at h
          omega
        all_goals
          refine cond_dk hid (cond_d (fun h => by omega) (fun _ => cond_dk hid (cond_dk hid (cond_d (fun h => by omega) (fun _ => cond_dk r1 ⟨⟨(hB _).1, (hB _).2, q1, q2, by omega⟩, fun v v1 v2 => cond_dk hid (cond_dk hid (cond_r (by omega) (cond_d (fun h => by omega) (fun _ => cond_dk r2 ⟨⟨(hB _).1, (hB _).2, n1, n2, by omega⟩, fun u u1 u2 => ?_⟩))))⟩)))))
          obtain ⟨⟨z1, z2⟩, hz⟩ := fin v u v1 v2 u1 u2
          exact cond_r (by omega) (cond_r (by omega) (cond_r (by omega) (cond_dk hid (cond_r (by omega) (cond_r (by omega) hz)))))
      · obtain rfl : k = y.L.length := by omega
        exact cond_d (fun h => by omega) (fun _ => ⟨rfl, rfl, ri, we, ⟨g1, by omega⟩, ⟨g3, g4⟩, rfl⟩)
    · rintro lock t h K ⟨hf, _, k1⟩
      refine ⟨⟨0, 0, 0⟩, hf, ⟨Nat.zero_le _, ⟨Int.le_refl _, by decide⟩, Int.le_refl _, Int.le_refl _⟩, ?_⟩
      rintro e vs bs ⟨rfl, rfl, ri, we, g1, g2, rfl⟩
      exact k1 _ ri we rfl g1 g2
  · rintro lock t h K ⟨hf, hc, _⟩
    exact (hn hc).elim

theorem lQ_ok : LSound Try.prog true (.block 4 (.loop (loopB 4 (bodyOf Try.prog 10)))) 312 (lQ l m day need nit y O b co) := by
  by_cases hn : y.L.length = O.length ∧ O.length ≤ 100000 ∧ ¬ cmpL O y.L < 0
  · obtain ⟨hn, hn2, hc⟩ := hn
    refine loop_row hmix good0 (un := 10) (ds := dsQ) (ns := [0, 1]) (nx := 2) (fun k : Nat => VQ l day need nit y O.length b co k) (fun _ => BO m O) (fun k => k ≤ O.length ∧ cmpL O y.L = cmpL (O.drop k) (y.L.drop k)) (fun k => O.length - k) (fun _ e vs bs => e = .exit 4 ∧ bs = BO m O ∧ ∃ i : Int, vs = VQ l day need nit y O.length b co i) noL_ok ?_ ?_
    · rintro k ⟨h0, h1⟩
      refine cast (lx_ev l m day need nit y O b co k _).symm ?_
      by_cases hlt : k < O.length
      · have hc3 := cmpL_drop O y.L k hlt (by omega)
        refine cond_dk (by omega) (cond_dk ⟨by omega, by omega⟩ (cond_dk ⟨by omega, by omega⟩ (cond_k (by rw [Nat.beq_refl]; rfl) (cond_k (Nat.beq_refl _) ?_))))
        rw [show (k : Int).toNat = k by omega]
        refine cond_nd (fun hne => cond_dk ⟨by omega, by omega⟩ (cond_k (by rw [Nat.beq_refl]; rfl) (cond_k (Nat.beq_refl _) (cond_dk ⟨by omega, by omega⟩ (cond_d (fun h => ?_) (fun h => ⟨rfl, rfl, k, rfl⟩)))))) (fun he => cond_r (by omega) ⟨k + 1, ⟨by omega, ?_⟩, by dsimp only; omega, rfl, fitBs_refl _, fun _ _ _ h => h⟩)
        · rw [h1, hc3, if_pos h] at hc
          exact (hc (by decide)).elim
        · rw [h1, hc3, if_neg (by omega), if_neg (by omega)]
      · obtain rfl : k = O.length := by omega
        exact cond_d (fun h => by omega) (fun _ => ⟨rfl, rfl, _, rfl⟩)
    · rintro lock t h K ⟨hf, _, k1⟩
      refine ⟨0, hf, ⟨Nat.zero_le _, by simp⟩, ?_⟩
      rintro e vs bs ⟨rfl, rfl, i, rfl⟩
      exact k1 i
  · rintro lock t h K ⟨hf, hc, _⟩
    exact (hn hc).elim
end
end Go.Sx.Grs

/- malt: the best choice, in plain Lean. -/

namespace Go.Sx.Grs
open Go Go.Sx Go.Proofs
set_option maxRecDepth 1000000

theorem cmpL_self : ∀ a : List Int, cmpL a a = 0
  | [] => rfl
  | x :: a => by
    unfold cmpL
    rw [if_neg (by omega), if_neg (by omega)]
    exact cmpL_self a
theorem cmpL_eq : ∀ a b : List Int, cmpL a b = 0 → a = b
  | [], [], _ => rfl
  | [], _ :: _, h => by unfold cmpL at h; cases h
  | _ :: _, [], h => by unfold cmpL at h; cases h
  | x :: a, y :: b, h => by
    unfold cmpL at h
    split at h
    · cases h
    · split at h
      · cases h
      · rw [cmpL_eq a b h, show x = y by omega]
theorem cmpL_neg : ∀ a b : List Int, cmpL a b = - cmpL b a
  | [], [] => rfl
  | [], _ :: _ => rfl
  | _ :: _, [] => rfl
  | x :: a, y :: b => by
    unfold cmpL
    by_cases h1 : x < y
    · rw [if_pos h1, if_neg (by omega), if_pos h1]
    · by_cases h2 : x > y
      · rw [if_neg h1, if_pos h2, if_pos (show y < x from h2)]; rfl
      · rw [if_neg h1, if_neg h2, if_neg (by omega), if_neg (by omega)]
        exact cmpL_neg a b
theorem cmpL_trans : ∀ a b c : List Int, cmpL a b < 0 → cmpL b c < 0 → cmpL a c < 0
  | [], [], _, h, _ => by unfold cmpL at h; omega
  | [], _ :: _, [], _, h => by unfold cmpL at h; omega
  | [], _ :: _, _ :: _, _, _ => by unfold cmpL; decide
  | _ :: _, [], _, h, _ => by unfold cmpL at h; omega
  | _ :: _, _ :: _, [], _, h => by unfold cmpL at h; omega
  | x :: a, y :: b, z :: c, h1, h2 => by
    unfold cmpL at h1 h2 ⊢
    by_cases e1 : x < y
    · by_cases e2 : y > z
      · rw [if_neg (by omega), if_pos e2] at h2; omega
      · rw [if_pos (by omega)]; decide
    · rw [if_neg e1] at h1
      by_cases e3 : x > y
      · rw [if_pos e3] at h1; omega
      · rw [if_neg e3] at h1
        obtain rfl : x = y := by omega
        by_cases e2 : x < z
        · rw [if_pos e2]; decide
        · rw [if_neg e2] at h2 ⊢
          by_cases e4 : x > z
          · rw [if_pos e4] at h2; omega
          · rw [if_neg e4] at h2 ⊢
            exact cmpL_trans a b c h1 h2

theorem better_self (x : Sk) : better x x = false := by
  unfold better
  rw [cmpL_self]
  exact decide_eq_false (by omega)
theorem better_trans {x y z : Sk} (h1 : better x y = true) (h2 : better y z = true) : better x z = true := by
  unfold better at *
  rw [decide_eq_true_eq] at *
  rcases h1 with h1 | ⟨h1, h1'⟩
  · exact .inl (by rcases h2 with h2 | ⟨h2, _⟩ <;> omega)
  · rcases h2 with h2 | ⟨h2, h2'⟩
    · exact .inl (by omega)
    · refine .inr ⟨by omega, ?_⟩
      rcases h1' with h1' | ⟨h1', h1''⟩
      · exact .inl (by rcases h2' with h2' | ⟨h2', _⟩ <;> omega)
      · rcases h2' with h2' | ⟨h2', h2''⟩
        · exact .inl (by omega)
        · exact .inr ⟨by omega, cmpL_trans _ _ _ h1'' h2''⟩

section
variable {l : List By} {day need nit : Int}

theorem bestG_fit : ∀ {k : Nat} {y : Sk}, bestG l day need nit k = some y → fitS day need nit y = true
  | 0, _, h => by cases h
  | k + 1, y, h => by
    unfold bestG stepG at h
    split at h
    · rename_i hf
      split at h
      · cases h
        exact hf
      · rename_i z hz
        split at h
        · cases h
          exact hf
        · cases h
          exact bestG_fit hz
    · exact bestG_fit h

theorem bestG_min : ∀ (k i : Nat), i < k → fitS day need nit (fillF l i l.length) = true → ∃ y, bestG l day need nit k = some y ∧ better (fillF l i l.length) y = false
  | 0, _, h, _ => by omega
  | k + 1, i, h, hf => by
    unfold bestG stepG
    by_cases hik : i = k
    · subst hik
      rw [if_pos hf]
      split
      · exact ⟨_, rfl, better_self _⟩
      · rename_i y hy
        split
        · exact ⟨_, rfl, better_self _⟩
        · rename_i hb
          exact ⟨_, rfl, by simpa using hb⟩
    · obtain ⟨y, hy, hb⟩ := bestG_min k i (by omega) hf
      rw [hy]
      dsimp only
      split
      · split
        · rename_i hb2
          refine ⟨_, rfl, ?_⟩
          cases hb3 : better (fillF l i l.length) (fillF l k l.length) with
          | false => rfl
          | true => rw [better_trans hb3 hb2] at hb; cases hb
        · exact ⟨_, rfl, hb⟩
      · exact ⟨_, rfl, hb⟩

theorem fillF_L (s : Nat) : ∀ k, (fillF l s k).L = oF s k
  | 0 => rfl
  | k + 1 => by
    unfold fillF oF
    split
    · dsimp only
      rw [fillF_L s k]
    · exact fillF_L s k

theorem oF_get (s : Nat) : ∀ k j, j < (oF s k).length → 0 ≤ (oF s k).getD j 0 ∧ (oF s k).getD j 0 < k ∧ s.testBit ((oF s k).getD j 0).toNat = true
  | 0, j, h => by cases h
  | k + 1, j, h => by
    unfold oF at h ⊢
    split
    · rename_i hb
      rw [if_pos hb, List.length_append, List.length_singleton] at h
      by_cases hj : j < (oF s k).length
      · have := oF_get s k j hj
        rw [List.getD_eq_getElem?_getD, List.getElem?_append_left hj, ← List.getD_eq_getElem?_getD]
        exact ⟨this.1, by omega, this.2.2⟩
      · rw [List.getD_eq_getElem?_getD, List.getElem?_append_right (by omega), show j - (oF s k).length = 0 by omega]
        simp only [List.getElem?_cons_zero, Option.getD_some]
        refine ⟨by omega, by omega, ?_⟩
        rw [Int.toNat_natCast]; exact hb
    · rename_i hb
      rw [if_neg hb] at h
      have := oF_get s k j h
      exact ⟨this.1, by omega, this.2.2⟩

theorem oF_sorted (s : Nat) : ∀ k j, j + 1 < (oF s k).length → (oF s k).getD j 0 < (oF s k).getD (j + 1) 0
  | 0, j, h => by cases h
  | k + 1, j, h => by
    unfold oF at h ⊢
    split
    · rename_i hb
      rw [if_pos hb, List.length_append, List.length_singleton] at h
      have hj : j < (oF s k).length := by omega
      rw [List.getD_eq_getElem?_getD, List.getElem?_append_left hj, ← List.getD_eq_getElem?_getD]
      by_cases hj2 : j + 1 < (oF s k).length
      · rw [List.getD_eq_getElem?_getD, List.getD_eq_getElem?_getD, List.getElem?_append_left hj2, ← List.getD_eq_getElem?_getD, ← List.getD_eq_getElem?_getD]
        exact oF_sorted s k j hj2
      · have := (oF_get s k j hj).2.1
        rw [List.getD_eq_getElem?_getD (l := oF s k ++ _), List.getElem?_append_right (by omega), show j + 1 - (oF s k).length = 0 by omega]
        simp only [List.getElem?_cons_zero, Option.getD_some]
        exact this
    · rename_i hb
      rw [if_neg hb] at h
      exact oF_sorted s k j h

theorem fillF_day (s : Nat) : ∀ k i, i < k → s.testBit i = true → (l.getD i b0).r ≤ (fillF l s k).d
  | 0, _, h, _ => by omega
  | k + 1, i, h, hb => by
    unfold fillF
    by_cases hik : i = k
    · subst hik
      rw [if_pos hb]
      dsimp only
      omega
    · have := fillF_day s k i (by omega) hb
      split
      · dsimp only; omega
      · exact this

theorem yOk_of {s : Nat} (hn : l.length ≤ 12) (hd : (fillF l s l.length).d ≤ day) : yOk l day (oF s l.length) := by
  refine ⟨by have := oF_len s l.length; omega, fun k hk => ?_, fun k hk => oF_sorted s _ k hk⟩
  obtain ⟨h1, h2, h3⟩ := oF_get s l.length k hk
  have := fillF_day (l := l) s l.length _ (show ((oF s l.length).getD k 0).toNat < l.length by omega) h3
  exact ⟨h1, h2, by omega⟩

theorem getD_app {D E : List Int} {k : Nat} (h : k < D.length) : (D ++ E).getD k 0 = D.getD k 0 := by
  rw [List.getD_eq_getElem?_getD, List.getElem?_append_left h, ← List.getD_eq_getElem?_getD]
theorem getD_last {D : List Int} {x : Int} : (D ++ [x]).getD D.length 0 = x := by
  rw [List.getD_eq_getElem?_getD, List.getElem?_append_right (Nat.le_refl _), Nat.sub_self]
  rfl
theorem chF_app (D E : List Int) : ∀ k, k ≤ D.length → chF l (D ++ E) k = chF l D k
  | 0, _ => rfl
  | k + 1, h => by
    unfold chF
    rw [chF_app D E k (by omega), getD_app (by omega)]

theorem chF_fill (s : Nat) : ∀ k, chF l (oF s k) (oF s k).length = ⟨[], (fillF l s k).p, (fillF l s k).w, (fillF l s k).r, (fillF l s k).d⟩
  | 0 => rfl
  | k + 1 => by
    have ih := chF_fill s k
    unfold oF fillF
    split
    · rw [List.length_append, List.length_singleton]
      conv => lhs; unfold chF
      rw [chF_app _ _ _ (Nat.le_refl _), ih, getD_last, Int.toNat_natCast]
    · exact ih

theorem fillF_mod (s n : Nat) : ∀ k, k ≤ n → fillF l (s % 2 ^ n) k = fillF l s k
  | 0, _ => rfl
  | k + 1, h => by
    unfold fillF
    rw [Nat.testBit_mod_two_pow, decide_eq_true (show k < n by omega), Bool.true_and, fillF_mod s n k (by omega)]

theorem fillF_more (m : By) (s : Nat) : ∀ k, k ≤ l.length → fillF (l ++ [m]) s k = fillF l s k
  | 0, _ => rfl
  | k + 1, h => by
    unfold fillF
    rw [fillF_more m s k (by omega), List.getD_eq_getElem?_getD, List.getElem?_append_left (by omega), ← List.getD_eq_getElem?_getD]

theorem fillF_more1 (m : By) {s : Nat} (hs : s < 2 ^ l.length) : fillF (l ++ [m]) s (l ++ [m]).length = fillF l s l.length := by
  rw [List.length_append, List.length_singleton]
  conv => lhs; unfold fillF
  rw [Nat.testBit_lt_two_pow hs, if_neg (by simp)]
  exact fillF_more m s _ (Nat.le_refl _)

/-- The answer for one lot more. -/
theorem more_v {m : By} {y : Sk} (hn : l.length ≤ 12) (hl : l.all okBy = true) (hd : (0 ≤ day ∧ day ≤ 65536) ∧ (0 ≤ need ∧ need ≤ 1099511627776) ∧ 0 ≤ nit ∧ nit ≤ 10000) (hy : bestG l day need nit (2 ^ l.length) = some y) :
    ∃ p2 e2 : Int, anyV (gristR (l ++ [m]) day need nit) = .tup [.any, I p2, I e2] ∧ e2 ≠ 4 ∧ (e2 = 0 → p2 ≤ y.p) := by
  unfold gristR
  by_cases h1 : ¬ (l ++ [m]).length ≤ 12 ∨ (l ++ [m]).all okBy = false
  · rw [if_pos h1]
    exact ⟨0, 1, rfl, by decide, fun h => by cases h⟩
  · rw [if_neg h1, if_neg (fun h => h hd)]
    obtain ⟨i, hi, hy2⟩ := bestG_mem hy
    have hf := bestG_fit hy
    rw [hy2] at hf
    have hf2 := hf
    rw [← fillF_more1 m hi] at hf2
    obtain ⟨z, hz, hb⟩ := bestG_min (l := l ++ [m]) (2 ^ (l ++ [m]).length) i (by
      rw [List.length_append, List.length_singleton, Nat.pow_succ]; omega) hf2
    rw [hz]
    refine ⟨z.p, 0, rfl, by decide, fun _ => ?_⟩
    rw [fillF_more1 m hi, ← hy2] at hb
    unfold better at hb
    rw [decide_eq_false_iff_not] at hb
    omega
end
end Go.Sx.Grs

/- malt: the law MaltCheapest. -/

namespace Go.Sx.Grs
open Go Go.Sx Go.Proofs
set_option maxRecDepth 1000000

theorem cat_more {l : List By} {m : By} {G : Nat → List VV} : ∀ j, j < 0 + l.length + 1 → catG (0 + l.length) (catG 0 G (byG l)) (fun j => List.take 6 (List.drop (j * 6) (byL m))) j = byG (l ++ [m]) j := by
  intro j hj
  unfold catG
  by_cases h : j < l.length
  · rw [blt_t (by omega), blt_f (by omega)]
    show byG l (j - 0) = _
    unfold byG
    rw [Nat.sub_zero, List.getD_eq_getElem?_getD (l := l ++ _), List.getElem?_append_left h, ← List.getD_eq_getElem?_getD]
  · obtain rfl : j = l.length := by omega
    rw [blt_f (by omega), show l.length - (0 + l.length) = 0 by omega]
    unfold byG
    rw [List.getD_eq_getElem?_getD (l := l ++ [m]), List.getElem?_append_right (Nat.le_refl _), Nat.sub_self]
    rfl

theorem room48 {n : Nat} (h : n ≤ 100000) : roomB n 48 = true := by
  unfold roomB
  simp only [Bool.and_eq_true, Nat.ble_eq]
  omega

theorem noL_good {sp : SpecT} (h : ∀ f T, sp f = some T → SpOk Try.prog f T) : Good Try.prog (callN Try.prog sp noL 10 20) := callN_good hmix h (fun _ _ _ _ _ _ _ h => by cases h) 20
theorem ch_tab {A C : VV} : ∀ f T, tabS [awT, grT A C, lotsT, chT] f = some T → SpOk Try.prog f T := tab_ok _ (fun x hx => by
  simp only [List.mem_cons, List.not_mem_nil, or_false] at hx
  rcases hx with rfl | rfl | rfl | rfl
  · exact awT_ok
  · exact grT_ok
  · exact lotsT_ok
  · exact chT_ok)

section
variable {l : List By} {B : List Int} {m : By} {day need nit : Int} {s : Nat} {y : Sk} {O : List Int} {b : Bool} {co : Int}

theorem l0_all : LoopsOk Try.prog 10 [(0, lOn l B m day need nit s O)] := fun x hx => by
  simp only [List.mem_singleton] at hx
  subst hx
  exact ⟨by kernel_rfl, lOn_ok⟩
theorem l1_all : LoopsOk Try.prog 10 [(0, lOy l B m day need nit s y O), (2, lP l B m day need nit s y O b co), (4, lQ l m day need nit y O b co)] := fun x hx => by
  simp only [List.mem_cons, List.not_mem_nil, or_false] at hx
  rcases hx with rfl | rfl | rfl
  · exact ⟨by kernel_rfl, lOy_ok⟩
  · exact ⟨by kernel_rfl, lP_ok⟩
  · exact ⟨by kernel_rfl, lQ_ok⟩

theorem oF_ok : dOk (oF s l.length) l.length := fun x hx => by
  obtain ⟨j, hj, rfl⟩ := List.getElem_of_mem hx
  have := oF_get s l.length j hj
  rw [List.getD_eq_getElem?_getD, List.getElem?_eq_getElem hj] at this
  exact ⟨this.1, this.2.1⟩

theorem fit_v {x : Sk} (h : fitS day need nit x = true) : x.d ≤ day ∧ need ≤ x.w ∧ x.r ≤ nit * x.w := by
  unfold fitS at h
  simp only [Bool.and_eq_true, Bool.not_eq_true', decide_eq_false_iff_not] at h
  omega

/-- What another set comes to. -/
theorem oth_v (s : Nat) : fitS day need nit (chF l (oF s l.length) (oF s l.length).length) = fitS day need nit (fillF l (s % 2 ^ l.length) l.length) ∧ (chF l (oF s l.length) (oF s l.length).length).p = (fillF l (s % 2 ^ l.length) l.length).p ∧ oF s l.length = (fillF l (s % 2 ^ l.length) l.length).L := by
  rw [chF_fill, fillF_mod s l.length l.length (Nat.le_refl _)]
  exact ⟨rfl, rfl, (fillF_L _ _).symm⟩
end

abbrev chArgs (l : List By) (B : List Int) (m : By) (day need nit : Int) (s : Nat) : List VV := [byD l, I day, I need, I nit, .int .u16 s, uD B, .agg (byL m)]

theorem cheapest_v (l : List By) (B : List Int) (m : By) (day need nit : Int) (s : Nat) (hB : ∀ j, 0 ≤ B.getD j 0 ∧ B.getD j 0 < 4294967296) : ∃ h', CallsV Try.prog 10 (chArgs l B m day need nit s) ⟨0, []⟩ (.ret (.bool true)) h' := by
  by_cases h1 : ¬ l.length ≤ 12 ∨ l.all okBy = false
  · have hg : gristR l day need nit = .ret (.tup [.nils, I 0, I 1]) := by unfold gristR; rw [if_pos h1]
    obtain ⟨r, h', rfl, hc⟩ := of_callN (noL_good (ch_tab (A := .tup [.nils, I 0, I 1]) (C := .nilp))) (f := 10) (args := chArgs l B m day need nit s) (h := ⟨0, []⟩) (K := fun r _ => r = .ret (.bool true)) (by
      refine cast (fE_ev l B m day need nit s .nilp _).symm ?_
      exact cond_d (fun _ => rfl) (fun _ => cond_d (fun _ => rfl) (fun _ => ⟨l, isT_byD, hg, rfl, rfl, rfl⟩)))
    exact ⟨h', hc⟩
  have hl : l.all okBy = true := by
    cases h : l.all okBy with
    | true => rfl
    | false => exact (h1 (.inr h)).elim
  have hn : l.length ≤ 12 := by omega
  by_cases h2 : ¬ ((0 ≤ day ∧ day ≤ 65536) ∧ (0 ≤ need ∧ need ≤ 1099511627776) ∧ 0 ≤ nit ∧ nit ≤ 10000)
  · have hg : gristR l day need nit = .ret (.tup [.nils, I 0, I 2]) := by unfold gristR; rw [if_neg h1, if_pos h2]
    obtain ⟨r, h', rfl, hc⟩ := of_callN (noL_good (ch_tab (A := .tup [.nils, I 0, I 2]) (C := .nilp))) (f := 10) (args := chArgs l B m day need nit s) (h := ⟨0, []⟩) (K := fun r _ => r = .ret (.bool true)) (by
      refine cast (fR_ev l B m day need nit s .nilp _).symm ?_
      exact cond_d (fun _ => rfl) (fun _ => cond_d (fun _ => rfl) (fun _ => ⟨l, isT_byD, hg, rfl, rfl, rfl⟩)))
    exact ⟨h', hc⟩
  have hd : (0 ≤ day ∧ day ≤ 65536) ∧ (0 ≤ need ∧ need ≤ 1099511627776) ∧ 0 ≤ nit ∧ nit ≤ 10000 := Classical.not_not.1 h2
  have hlen := oF_len s l.length
  have hok : (l.all okBy && decide (l.length ≤ 12)) = true := by rw [hl, decide_eq_true hn]; rfl
  obtain ⟨o1, o2, o3⟩ := oth_v (l := l) (day := day) (need := need) (nit := nit) s
  have hs2 : s % 2 ^ l.length < 2 ^ l.length := Nat.mod_lt _ (Nat.two_pow_pos _)
  cases hb : bestG l day need nit (2 ^ l.length) with
  | none =>
    have hg : gristR l day need nit = .ret (.tup [.nils, I 0, I 4]) := by unfold gristR; rw [if_neg h1, if_neg h2, hb]
    obtain ⟨r, h', rfl, hc⟩ := of_callN (callL_good hmix (ch_tab (A := .tup [.nils, I 0, I 4]) (C := .nilp)) (l0_all (l := l) (B := B) (m := m) (day := day) (need := need) (nit := nit) (s := s) (O := oF s l.length)) (un := 10) 20) (f := 10) (args := chArgs l B m day need nit s) (h := ⟨0, []⟩) (K := fun r _ => r = .ret (.bool true)) (by
      refine cast (f0_ev l B m day need nit s .nilp (oF s l.length) _).symm ?_
      refine cond_d (fun _ => rfl) (fun _ => cond_d (fun _ => rfl) (fun _ => ⟨l, isT_byD, hg, rfl, rfl, l, isT_byD, by omega, ?_⟩))
      rw [hok]
      refine ⟨fitP_self rfl, ⟨hn, rfl⟩, l, oF s l.length, isT_byD, ⟨rfl, Nat.le_refl _, _, _, rfl, fun _ _ => rfl⟩, ⟨hl, by omega, oF_ok, hd.1.1, hd.2.2.1, hd.2.2.2⟩, ?_⟩
      rintro x rfl
      rw [o1]
      cases hf : fitS day need nit (fillF l (s % 2 ^ l.length) l.length) with
      | false => rfl
      | true =>
        obtain ⟨y, hy, _⟩ := bestG_min (2 ^ l.length) _ hs2 hf
        rw [hb] at hy; cases hy)
    exact ⟨h', hc⟩
  | some y =>
    have hg : gristR l day need nit = .ret (.tup [inD y.L, I y.p, I 0]) := by unfold gristR; rw [if_neg h1, if_neg h2, hb]
    obtain ⟨p2, e2, hm1, hm2, hm3⟩ := more_v (m := m) hn hl hd hb
    obtain ⟨i, hi, hy⟩ := bestG_mem hb
    have hyf := fit_v (bestG_fit hb)
    have hyL : y.L = oF i l.length := by rw [hy]; exact fillF_L _ _
    have hyk : yOk l day y.L := by rw [hyL]; exact yOk_of hn (by rw [← hy]; exact hyf.1)
    have hyc : chF l y.L y.L.length = ⟨[], y.p, y.w, y.r, y.d⟩ := by rw [hyL, chF_fill, ← hy]
    have hyb := fillF_bd (s := i) hl l.length (Nat.le_refl _)
    rw [← hy] at hyb
    obtain ⟨_, _, ⟨y4, y5⟩, _, _⟩ := hyb
    have hbt : fitS day need nit (fillF l (s % 2 ^ l.length) l.length) = true → ¬ ((chF l (oF s l.length) (oF s l.length).length).p < y.p ∨ (chF l (oF s l.length) (oF s l.length).length).p = y.p ∧ ((oF s l.length).length < y.L.length ∨ (oF s l.length).length = y.L.length ∧ cmpL (oF s l.length) y.L < 0)) := fun hf => by
      obtain ⟨z, hz, hnb⟩ := bestG_min (2 ^ l.length) _ hs2 hf
      rw [hb] at hz
      cases hz
      unfold better at hnb
      rw [decide_eq_false_iff_not] at hnb
      rw [o2, o3]
      exact hnb
    generalize hO : oF s l.length = O at *
    generalize hx : chF l O O.length = x at *
    obtain ⟨r, h', rfl, hc⟩ := of_callN (callL_good hmix (ch_tab (A := .tup [inD y.L, I y.p, I 0]) (C := .tup [.any, I p2, I e2])) (l1_all (l := l) (B := B) (m := m) (day := day) (need := need) (nit := nit) (s := s) (O := O) (y := y) (b := fitS day need nit x) (co := x.p)) (un := 10) 20) (f := 10) (args := chArgs l B m day need nit s) (h := ⟨0, []⟩) (K := fun r _ => r = .ret (.bool true)) (by
      refine cast (f1_ev l B m day need nit s y (fitS day need nit x) x.p p2 e2 O _).symm ?_
      refine cond_d (fun _ => rfl) (fun _ => cond_d (fun _ => rfl) (fun hB0 => ⟨l, isT_byD, hg, rfl, rfl, l, isT_byD, by omega, ?_⟩))
      rw [hok]
      refine ⟨fitP_self rfl, ⟨hn, hO.symm⟩, l, O, isT_byD, ⟨rfl, Nat.le_refl _, _, _, rfl, fun _ _ => rfl⟩, ⟨hl, by omega, by rw [← hO]; exact oF_ok, hd.1.1, hd.2.2.1, hd.2.2.2⟩, ?_⟩
      rw [hx]
      rintro x' rfl
      refine ⟨⟨⟨rfl, rfl, VB.fit_refl _, VB.fit_refl _, trivial⟩, rfl, rfl, rfl, rfl, rfl, rfl, rfl, rfl, rfl, rfl, rfl, rfl, rfl, rfl, rfl, rfl, rfl, rfl, trivial⟩, ⟨hl, ⟨by omega, hB⟩, hyk⟩, ?_⟩
      rw [hyc]
      rintro x'' ri we rfl ⟨g1, g2⟩ ⟨g3, g4⟩
      dsimp only at g1 g4 ⊢
      have hmul : nit * y.w ≤ nit * we := Int.mul_le_mul_of_nonneg_left g1 hd.2.2.1
      have hmul2 : 0 ≤ nit * we ∧ nit * we ≤ 10000 * 2000000000000 := ⟨Int.mul_nonneg hd.2.2.1 (by omega), by
        calc nit * we ≤ 10000 * we := Int.mul_le_mul_of_nonneg_right hd.2.2.2 (by omega)
          _ ≤ 10000 * 2000000000000 := Int.mul_le_mul_of_nonneg_left (by omega) (by omega)⟩
      have tail : ∀ Q : Prop, Q → (bif !decide (e2 = 0) then (bif !decide (e2 = 4) then Q else VRes.ret (VV.bool false) = .ret (.bool true)) else bif decide (p2 ≤ y.p) then (bif !decide (e2 = 4) then Q else VRes.ret (VV.bool false) = .ret (.bool true)) else VRes.ret (VV.bool false) = .ret (.bool true)) := fun Q hQ =>
        cond_nd (fun _ => cond_nd (fun _ => hQ) (fun h => (hm2 h).elim)) (fun h => cond_dk (hm3 h) (cond_nd (fun _ => hQ) (fun h => (hm2 h).elim)))
      have hT : ∀ {h : VH} {G : Nat → List VV} {t : TypeId}, h.at 2 = .vec (0 + l.length + 1) (catG (0 + l.length) (catG 0 G (byG l)) (fun j => List.take 6 (List.drop (j * 6) (byL m)))) 6 t → isT h (.sl 2 (0 + l.length + 1)) (byD (l ++ [m])) := fun h => ⟨by simp, by decide, _, _, h, cat_more⟩
      refine cond_d (fun h => by omega) (fun _ => cond_r (by omega) (cond_d (fun h => by omega) (fun _ => cond_nd (fun h => (h rfl).elim) (fun _ => ?_))))
      refine cond_i (fun hf => ?_) (fun hf => ?_)
      · rw [hf] at o1
        have hbt := hbt o1.symm
        refine cond_d (fun h => (hbt (.inl h)).elim) (fun _ => cond_d (fun he => cond_d (fun h => (hbt (.inr ⟨he, .inl (by omega)⟩)).elim) (fun _ => cond_i (fun _ => cond_dk he (cond_d (fun hlen => ⟨fitP_self rfl, ⟨by omega, by omega, fun h => hbt (.inr ⟨he, .inr ⟨by omega, h⟩⟩)⟩, fun i => ?_⟩) (fun _ => ?_))) (fun h => by rw [hf] at h; cases h))) (fun hne => cond_i (fun _ => cond_d (fun h => (hne h).elim) (fun _ => ?_)) (fun h => by rw [hf] at h; cases h)))
        all_goals exact cond_k (room48 (by omega)) (cond_k (Nat.beq_refl _) (cond_k (room48 (by omega)) ⟨l ++ [m], hT rfl, hm1, tail _ rfl⟩))
      · refine cond_i (fun h => by rw [hf] at h; cases h) (fun _ => ?_)
        exact cond_k (room48 (by omega)) (cond_k (Nat.beq_refl _) (cond_k (room48 (by omega)) ⟨l ++ [m], hT rfl, hm1, tail _ rfl⟩)))
    exact ⟨h', hc⟩
end Go.Sx.Grs
