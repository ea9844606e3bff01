/- stream: Ha1 Ha2 Ha3 Ha4 Ha5 Ha6 Ha7 Ha8 Ha9, in one text. -/
import Derived.Test.YtdfbhoejljidfaaSxI
import Derived.Test.YtdfbhoejljidfaaSxN
import Derived.Test.YtdfbhoejljidfaaSxU
import Derived.Test.YtdfbhoejljidfaaSxY
import Derived.Test.YtdfbhoejljidfaaProg
import Derived.Test.YtdfbhoejljidfaaMx1
/- malt: lots of barley, basics. -/

namespace Go.Sx.Grs
open Go Go.Sx Go.Proofs
set_option maxRecDepth 100000

theorem hmix : Try.prog.follows .mixedOrders = true := by kernel_rfl
theorem none_good {un : Nat} (m : Nat) : Good Try.prog (callN Try.prog noSpec noL un m) :=
  callN_good hmix (fun _ _ h => by cases h) (fun _ _ _ _ _ _ _ h => by cases h) m
theorem good0 : Good Try.prog (callN Try.prog noSpec noL 10 20) := none_good 20
theorem noL_ok {b : Code} {n : Nat} : ∀ id T, (fun _ : Nat => (none : Option LT)) id = some T → ∀ b' ∈ blocksOf id b, LSound Try.prog true (.block id b') n T := fun _ _ h => by cases h
theorem noSp : ∀ f T, noSpec f = some T → SpOk Try.prog f T := fun _ _ h => by cases h
theorem cond_b {b : Bool} {p q : Prop} (h1 : b = true → p) (h2 : b = false → q) : (bif b then p else q) := by
  cases b
  · exact h2 rfl
  · exact h1 rfl

/-- A lot of barley. -/
structure By where
  wl : Int
  wh : Int
  nl : Int
  nh : Int
  r : Int
  p : Int
def b0 : By := ⟨0, 0, 0, 0, 0, 0⟩
@[reducible] def I (n : Int) : VV := .int .i64 n
def byL (b : By) : List VV := [I b.wl, I b.wh, I b.nl, I b.nh, I b.r, I b.p]
def byG (l : List By) (j : Nat) : List VV := byL (l.getD j b0)
def byD (l : List By) : VV := .tl l.length 6 (byG l)
def dG (D : List Int) (j : Nat) : List VV := [I (D.getD j 0)]
def inD (D : List Int) : VV := .tl D.length 1 (dG D)

/-- Is a lot valid? -/
def okBy (b : By) : Bool := decide (0 ≤ b.wl ∧ b.wl ≤ b.wh ∧ b.wh ≤ 91625968981) && decide (0 ≤ b.nl ∧ b.nl ≤ b.nh ∧ b.nh ≤ 10000) && decide (0 ≤ b.r ∧ b.r ≤ 65536) && decide (0 ≤ b.p ∧ b.p ≤ 1073741824)
end Go.Sx.Grs

/- malt: valid lots, choices, evaluated. -/

namespace Go.Sx.Grs
open Go Go.Sx Go.Proofs
set_option maxRecDepth 1000000

theorem odd_ev (b : By) (Q : VRes → Prop) : callN Try.prog noSpec noL 10 20 0 (.fn 49) [.agg (byL b)] ⟨0, []⟩ (fun r _ => Q r) =
  (bif decide (b.wl ≥ (0 : Int)) then
 bif decide (b.wl ≤ b.wh) then
 bif !decide (b.wh ≤ (91625968981 : Int)) then
 Q (VRes.ret (VV.bool true))
 else bif decide (b.nl ≥ (0 : Int)) then
 bif decide (b.nl ≤ b.nh) then
 bif !decide (b.nh ≤ (10000 : Int)) then
 Q (VRes.ret (VV.bool true))
 else bif decide (b.r ≥ (0 : Int)) then
 bif !decide (b.r ≤ (65536 : Int)) then
 Q (VRes.ret (VV.bool true))
 else bif decide (b.p ≥ (0 : Int)) then
 Q (VRes.ret (VV.bool !decide (b.p ≤ (1073741824 : Int))))
 else Q (VRes.ret (VV.bool !false))
 else Q (VRes.ret (VV.bool true))
 else Q (VRes.ret (VV.bool true))
 else Q (VRes.ret (VV.bool true))
 else Q (VRes.ret (VV.bool true))
 else Q (VRes.ret (VV.bool true))) := by kernel_rfl

/-- Whether a lot is odd, as a row. -/
def oddT : FuncId × Spec1 := (49, fun _ args h K => match args with
  | [.agg [.int .i64 a, .int .i64 b, .int .i64 c, .int .i64 d, .int .i64 e, .int .i64 f]] => K (.ret (.bool (!okBy ⟨a, b, c, d, e, f⟩))) h
  | _ => False)
def dsX : List Nat := [8, 7, 6, 4, 0, 1]
def VX (l : List By) (i : Int) : List VV := [I i, I l.length, byD l, I 0, byD l, .func 49 [] []]
theorem ix_ev (l : List By) (i : Int) (X : VEx → List VV → List VB → Prop) : codeE Try.prog (callN Try.prog (tabS [oddT]) noL 10 20) (fun _ => none) true 10 19 0 (loopB 0 (bodyOf Try.prog 60)) (dsX.zip (VX l i)) ⟨0, ([] : List Nat).zip []⟩ (obs 0 dsX [] X) =
  (bif decide (i < (↑l.length : Int)) then
 bif decide ((0 : Int) ≤ i ∧ i < (↑l.length : Int)) then
 bif !okBy (By.mk (l.getD i.toNat b0).wl (l.getD i.toNat b0).wh (l.getD i.toNat b0).nl (l.getD i.toNat b0).nh (l.getD i.toNat b0).r (l.getD i.toNat b0).p) then
 X VEx.ret [I i, I (↑l.length : Int), VV.tl l.length 6 (byG l), I i, VV.tl l.length 6 (byG l), VV.func (49 : FuncId) [] []] []
 else bif inK IntKind.i64 (i + (1 : Int)) then
 X VEx.normal [I (i + (1 : Int)), I (↑l.length : Int), VV.tl l.length 6 (byG l), I 0, VV.tl l.length 6 (byG l), VV.func (49 : FuncId) [] []] []
 else False
 else False
 else X (VEx.exit 0) [I i, I (↑l.length : Int), VV.tl l.length 6 (byG l), I 0, VV.tl l.length 6 (byG l), VV.func (49 : FuncId) [] []] []) := by kernel_rfl

def dsF : List Nat := [10, 9, 8, 5, 4, 1]
def VF (l : List By) (s i : Int) : List VV := [I i, I l.length, byD l, .ptr (.own 1 0), .ptr (.own 0 0), I s]
def BF (L : List Int) (p w r d : Int) : List VB := [.cells [.nils, I 0, I 0, I 0, I 0] 98, .cells [.sl 2 L.length, I p, I w, I r, I d] 98, .vec L.length (dG L) 1 3]
theorem fi_ev (l : List By) (s i : Int) (L : List Int) (p w r d : Int) (X : VEx → List VV → List VB → Prop) : codeE Try.prog (callN Try.prog noSpec noL 10 20) (fun _ => none) true 10 58 0 (loopB 0 (bodyOf Try.prog 53)) (dsF.zip (VF l s i)) ⟨3, [0, 1, 2].zip (BF L p w r d)⟩ (obs 3 dsF [0, 1, 2] X) =
  (bif decide (i < (↑l.length : Int)) then
 bif decide ((0 : Int) ≤ i ∧ i < (↑l.length : Int)) then
 bif decide (i < (0 : Int)) then
 False
 else bif decide (IntKind.i64.wrap (↑(BitVec.ofInt IntKind.i64.bits (s.fdiv ((2 : Int) ^ min i.toNat IntKind.i64.bits)) &&& BitVec.ofInt IntKind.i64.bits (1 : Int)).toNat : Int) = (1 : Int)) then
 bif L.length.beq L.length then
 bif roomB (L.length + 1) (8) then
 bif inK IntKind.i64 (p + (l.getD i.toNat b0).p) then
 bif inK IntKind.i64 (w + (l.getD i.toNat b0).wl) then
 bif inK IntKind.i64 ((l.getD i.toNat b0).wh * (l.getD i.toNat b0).nh) then
 bif inK IntKind.i64 (r + (l.getD i.toNat b0).wh * (l.getD i.toNat b0).nh) then
 bif inK IntKind.i64 (i + (1 : Int)) then
 X VEx.normal [I (i + (1 : Int)), I (↑l.length : Int), VV.tl l.length 6 (byG l), VV.ptr (VA.own 1 0), VV.ptr (VA.own 0 0), I s] [VB.cells [VV.nils, I 0, I 0, I 0, I 0] (98 : TypeId), VB.cells [VV.sl 2 (L.length + 1), I (p + (l.getD i.toNat b0).p), I (w + (l.getD i.toNat b0).wl), I (r + (l.getD i.toNat b0).wh * (l.getD i.toNat b0).nh), I (max d (l.getD i.toNat b0).r)] (98 : TypeId), VB.vec (L.length + 1) (catG L.length (dG L) fun j => List.take (1) (List.drop (j * (1)) [I i])) (1) 3]
 else False
 else False
 else False
 else False
 else False
 else False
 else False
 else bif inK IntKind.i64 (i + (1 : Int)) then
 X VEx.normal [I (i + (1 : Int)), I (↑l.length : Int), VV.tl l.length 6 (byG l), VV.ptr (VA.own 1 0), VV.ptr (VA.own 0 0), I s] [VB.cells [VV.nils, I 0, I 0, I 0, I 0] (98 : TypeId), VB.cells [VV.sl 2 L.length, I p, I w, I r, I d] (98 : TypeId), VB.vec L.length (dG L) 1 (3 : TypeId)]
 else False
 else False
 else X (VEx.exit 0) [I i, I (↑l.length : Int), VV.tl l.length 6 (byG l), VV.ptr (VA.own 1 0), VV.ptr (VA.own 0 0), I s] [VB.cells [VV.nils, I 0, I 0, I 0, I 0] (98 : TypeId), VB.cells [VV.sl 2 L.length, I p, I w, I r, I d] (98 : TypeId), VB.vec L.length (dG L) 1 (3 : TypeId)]) := by kernel_rfl

def dsC : List Nat := [11, 10, 9, 0, 1, 4]
def VC (a b : List Int) (i x : Int) : List VV := [I i, I a.length, inD a, inD a, inD b, I x]
theorem cm_ev (a b : List Int) (i : Int) (X : VEx → List VV → List VB → Prop) : codeE Try.prog (callN Try.prog noSpec noL 10 20) (fun _ => none) true 10 36 0 (loopB 0 (bodyOf Try.prog 54)) (dsC.zip (VC a b i 0)) ⟨0, ([] : List Nat).zip []⟩ (obs 0 dsC [] X) =
  (bif decide (i < (↑a.length : Int)) then
 bif decide ((0 : Int) ≤ i ∧ i < (↑a.length : Int)) then
 bif decide (i ≥ (↑b.length : Int)) then
 X VEx.ret [I i, I (↑a.length : Int), VV.tl a.length 1 (dG a), VV.tl a.length 1 (dG a), VV.tl b.length 1 (dG b), I 1] []
 else bif decide ((0 : Int) ≤ i ∧ i < (↑b.length : Int)) then
 bif !decide (a.getD i.toNat (0 : Int) = a.getD i.toNat (0 : Int)) then
 bif !decide (b.getD i.toNat (0 : Int) = b.getD i.toNat (0 : Int)) then
 bif inK IntKind.i64 (i + (1 : Int)) then
 X VEx.normal [I (i + (1 : Int)), I (↑a.length : Int), VV.tl a.length 1 (dG a), VV.tl a.length 1 (dG a), VV.tl b.length 1 (dG b), I 0] []
 else False
 else X VEx.ret [I i, I (↑a.length : Int), VV.tl a.length 1 (dG a), VV.tl a.length 1 (dG a), VV.tl b.length 1 (dG b), I (-1)] []
 else bif !decide (b.getD i.toNat (0 : Int) = b.getD i.toNat (0 : Int)) then
 X VEx.ret [I i, I (↑a.length : Int), VV.tl a.length 1 (dG a), VV.tl a.length 1 (dG a), VV.tl b.length 1 (dG b), I 1] []
 else bif decide (a.getD i.toNat (0 : Int) < b.getD i.toNat (0 : Int)) then
 X VEx.ret [I i, I (↑a.length : Int), VV.tl a.length 1 (dG a), VV.tl a.length 1 (dG a), VV.tl b.length 1 (dG b), I (-1)] []
 else bif decide (a.getD i.toNat (0 : Int) > b.getD i.toNat (0 : Int)) then
 X VEx.ret [I i, I (↑a.length : Int), VV.tl a.length 1 (dG a), VV.tl a.length 1 (dG a), VV.tl b.length 1 (dG b), I 1] []
 else bif inK IntKind.i64 (i + (1 : Int)) then
 X VEx.normal [I (i + (1 : Int)), I (↑a.length : Int), VV.tl a.length 1 (dG a), VV.tl a.length 1 (dG a), VV.tl b.length 1 (dG b), I 0] []
 else False
 else False
 else False
 else X (VEx.exit 0) [I i, I (↑a.length : Int), VV.tl a.length 1 (dG a), VV.tl a.length 1 (dG a), VV.tl b.length 1 (dG b), I 0] []) := by kernel_rfl

def lX (l : List By) : LT := fun lock t h K =>
  FitP lock h t ⟨0, ([] : List Nat).zip []⟩ (dsX.zip (VX l 0)) ∧ l.length ≤ 100000 ∧ (l.all okBy = true → K .normal (dsX.zip (VX l l.length)) ⟨0, ([] : List Nat).zip []⟩) ∧ (l.all okBy = false → ∀ i : Nat, K .ret (dsX.zip [I i, I l.length, byD l, I i, byD l, .func 49 [] []]) ⟨0, ([] : List Nat).zip []⟩)
theorem ct_ev (l : List By) (Q : VRes → Prop) : callN Try.prog noSpec (atF 60 [(0, lX l)]) 10 20 0 (.fn 51) [byD l, .func 49 [] []] ⟨0, []⟩ (fun r _ => Q r) =
  (FitP 0 (VH.mk 0 ([].zip [])) (dsX.zip (VX l (0 : Int))) (VH.mk 0 ([].zip [])) (dsX.zip (VX l (0 : Int))) ∧ l.length ≤ 100000 ∧ (l.all okBy = true → Q (VRes.ret (VV.bool (decide ((-1 : Int) ≥ (0 : Int)))))) ∧ (l.all okBy = false → ∀ (i : Nat), Q (VRes.ret (VV.bool (decide ((↑i : Int) ≥ (0 : Int))))))) := by kernel_rfl

def cmpL : List Int → List Int → Int
  | [], [] => 0
  | [], _ :: _ => -1
  | _ :: _, [] => 1
  | x :: a, y :: b => if x < y then -1 else if x > y then 1 else cmpL a b
def lC (a b : List Int) : LT := fun lock t h K =>
  FitP lock h t ⟨0, ([] : List Nat).zip []⟩ (dsC.zip (VC a b 0 0)) ∧ (a.length ≤ 100000 ∧ b.length ≤ 100000) ∧ (∀ (i : Int) (x : Int), x = cmpL a b → K .ret (dsC.zip (VC a b i x)) ⟨0, ([] : List Nat).zip []⟩) ∧ ((a.length < b.length → cmpL a b = -1) → (¬ a.length < b.length → cmpL a b = 0) → K .normal (dsC.zip (VC a b a.length 0)) ⟨0, ([] : List Nat).zip []⟩)
theorem cp_ev (a b : List Int) (Q : VRes → Prop) : callN Try.prog noSpec (atF 54 [(0, lC a b)]) 10 20 0 (.fn 54) [inD a, inD b] ⟨0, []⟩ (fun r _ => Q r) =
  (FitP 0 (VH.mk 0 ([].zip [])) (dsC.zip (VC a b (0 : Int) (0 : Int))) (VH.mk 0 ([].zip [])) (dsC.zip (VC a b (0 : Int) (0 : Int))) ∧ (a.length ≤ 100000 ∧ b.length ≤ 100000) ∧ (∀ (i x : Int), x = cmpL a b → Q (VRes.ret (I x))) ∧ ((a.length < b.length → cmpL a b = (-1 : Int)) → (¬a.length < b.length → cmpL a b = (0 : Int)) → bif decide ((↑a.length : Int) < (↑b.length : Int)) then
 Q (VRes.ret (I (-1)))
 else Q (VRes.ret (I 0)))) := by kernel_rfl

/-- A choice. -/
structure Sk where
  L : List Int
  p : Int
  w : Int
  r : Int
  d : Int
def fillF (l : List By) (s : Nat) : Nat → Sk
  | 0 => ⟨[], 0, 0, 0, 0⟩
  | k + 1 => if s.testBit k then ⟨(fillF l s k).L ++ [(k : Int)], (fillF l s k).p + (l.getD k b0).p, (fillF l s k).w + (l.getD k b0).wl, (fillF l s k).r + (l.getD k b0).wh * (l.getD k b0).nh, max (fillF l s k).d (l.getD k b0).r⟩ else fillF l s k
def skB (x : Sk) : List VB := BF x.L x.p x.w x.r x.d
def lFs (l : List By) (s : Nat) (x : Sk) : LT := fun lock t h K =>
  FitP lock h t ⟨3, [0, 1, 2].zip (BF [] 0 0 0 0)⟩ (dsF.zip (VF l s 0)) ∧ (l.all okBy = true ∧ l.length ≤ 40 ∧ x = fillF l s l.length) ∧ K .normal (dsF.zip (VF l s l.length)) ⟨3, [0, 1, 2].zip (skB x)⟩
def lF (l : List By) (s : Nat) (x : Sk) : LT := fun lock t h K =>
  FitP lock h t ⟨2, [0, 1].zip [.cells [.nils, I 0, I 0, I 0, I 0] 98, .cells [.nils, I 0, I 0, I 0, I 0] 98]⟩ (dsF.zip (VF l s 0)) ∧ (l.all okBy = true ∧ l.length ≤ 40 ∧ x = fillF l s l.length) ∧ K .normal (dsF.zip (VF l s l.length)) ⟨3, [0, 1, 2].zip (skB x)⟩
theorem fl_ev2 (l : List By) (s : Nat) (x : Sk) (Q : VRes → VH → Prop) : callN Try.prog noSpec (atF 53 [(0, lF l s x)]) 10 20 0 (.fn 53) [byD l, I s] ⟨0, []⟩ (fun r h => Q r h) =
  (FitP 0 (VH.mk 2 ([0, 1].zip [VB.cells [VV.nils, I 0, I 0, I 0, I 0] (98 : TypeId), VB.cells [VV.nils, I 0, I 0, I 0, I 0] (98 : TypeId)])) (dsF.zip (VF l (↑s : Int) (0 : Int))) (VH.mk 2 ([0, 1].zip [VB.cells [VV.nils, I 0, I 0, I 0, I 0] (98 : TypeId), VB.cells [VV.nils, I 0, I 0, I 0, I 0] (98 : TypeId)])) (dsF.zip (VF l (↑s : Int) (0 : Int))) ∧ (l.all okBy = true ∧ l.length ≤ 40 ∧ x = fillF l s l.length) ∧ Q (VRes.ret (VV.agg [VV.sl 2 x.L.length, I x.p, I x.w, I x.r, I x.d])) (VH.mk 3 [(0, VB.cells [VV.sl 2 x.L.length, I x.p, I x.w, I x.r, I x.d] (98 : TypeId)), (0, VB.cells [VV.nils, I 0, I 0, I 0, I 0] (98 : TypeId)), (1, VB.cells [VV.sl 2 x.L.length, I x.p, I x.w, I x.r, I x.d] (98 : TypeId)), (2, VB.vec x.L.length (dG x.L) 1 (3 : TypeId))])) := by kernel_rfl


end Go.Sx.Grs

/- malt: valid lots; comparing lists. -/

namespace Go.Sx.Grs
open Go Go.Sx Go.Proofs
set_option maxRecDepth 1000000

theorem cond_bb {b : Bool} {Q : Prop} {A B : Prop} (hA : b = true → A = Q) (hB : b = false → B = Q) (h : Q) : (bif b then A else B) := by
  cases b
  · exact (hB rfl) ▸ h
  · exact (hA rfl) ▸ h

theorem odd_v (b : By) : ∃ h', CallsV Try.prog 49 [.agg (byL b)] ⟨0, []⟩ (.ret (.bool (!okBy b))) h' := by
  obtain ⟨r, h', rfl, hc⟩ := of_callN good0 (f := 49) (args := [.agg (byL b)]) (h := ⟨0, []⟩) (K := fun r _ => r = .ret (.bool (!okBy b))) (by
    refine cast (odd_ev b _).symm ?_
    have e : ∀ x : Bool, okBy b = !x → VRes.ret (VV.bool x) = VRes.ret (VV.bool (!okBy b)) := fun x hx => by rw [hx]; simp
    refine cond_d (fun h1 => cond_d (fun h2 => cond_nd (fun h3 => e _ ?_) (fun h3 => cond_d (fun h4 => cond_d (fun h5 => cond_nd (fun h6 => e _ ?_) (fun h6 => cond_d (fun h7 => cond_nd (fun h8 => e _ ?_) (fun h8 => cond_d (fun h9 => e _ ?_) (fun h9 => e _ ?_))) (fun h7 => e _ ?_))) (fun h5 => e _ ?_)) (fun h4 => e _ ?_))) (fun h2 => e _ ?_)) (fun h1 => e _ ?_)
    all_goals unfold okBy
    all_goals first
      | (rw [decide_eq_false (p := 0 ≤ b.wl ∧ _) (by omega)]; rfl)
      | (rw [decide_eq_false (p := 0 ≤ b.nl ∧ _) (by omega)]; simp)
      | (rw [decide_eq_false (p := 0 ≤ b.r ∧ _) (by omega)]; simp)
      | (rw [decide_eq_true (p := 0 ≤ b.wl ∧ _) (by omega), decide_eq_true (p := 0 ≤ b.nl ∧ _) (by omega), decide_eq_true (p := 0 ≤ b.r ∧ _) (by omega)]
         simp only [Bool.true_and, Bool.not_not]
         rw [decide_eq_decide]
         omega)
      | (rw [decide_eq_false (p := 0 ≤ b.p ∧ _) (by omega)]; simp))
  exact ⟨h', hc⟩

theorem oddT_ok : SpOk Try.prog oddT.1 oddT.2 := by
  intro lock args h K hK
  simp only [oddT] at hK
  split at hK
  · rename_i a b c d e f
    obtain ⟨h', hc⟩ := odd_v ⟨a, b, c, d, e, f⟩
    exact ⟨_, h, hK, lockP_refl _ _, calls_lendP hc rfl ⟨⟨⟨rfl, rfl⟩, ⟨rfl, rfl⟩, ⟨rfl, rfl⟩, ⟨rfl, rfl⟩, ⟨rfl, rfl⟩, ⟨rfl, rfl⟩, trivial⟩, trivial⟩⟩
  · exact hK.elim

theorem odd_tab : ∀ f T, tabS [oddT] f = some T → SpOk Try.prog f T := tab_ok _ (fun x hx => by
  simp only [List.mem_singleton] at hx
  subst hx
  exact oddT_ok)
theorem odd_good : Good Try.prog (callN Try.prog (tabS [oddT]) noL 10 20) := callN_good hmix odd_tab (fun _ _ _ _ _ _ _ h => by cases h) 20

def OX (l : List By) (_ : Nat) (e : VEx) (vs : List VV) (bs : List VB) : Prop :=
  bs = [] ∧ ((l.all okBy = true ∧ e = .exit 0 ∧ vs = VX l l.length) ∨ (l.all okBy = false ∧ e = .ret ∧ ∃ i : Nat, vs = [I i, I l.length, byD l, I i, byD l, .func 49 [] []]))

theorem lX_ok {l : List By} : LSound Try.prog true (.block 0 (.loop (loopB 0 (bodyOf Try.prog 60)))) 19 (lX l) := by
  by_cases hn : l.length ≤ 100000
  · refine loop_row hmix odd_good (un := 10) (ds := dsX) (ns := []) (nx := 0) (fun i : Nat => VX l i) (fun _ => []) (fun i => i ≤ l.length ∧ ∀ j, j < i → okBy (l.getD j b0) = true) (fun i => l.length - i) (OX l) noL_ok ?_ ?_
    · rintro i ⟨h0, h1⟩
      refine cast (ix_ev l i _).symm ?_
      by_cases hlt : i < l.length
      · refine cond_dk (by omega) (cond_dk ⟨by omega, by omega⟩ ?_)
        rw [show (i : Int).toNat = i by omega]
        refine cond_i (fun h => ?_) (fun h => cond_r (by omega) ⟨i + 1, ⟨by omega, fun j hj => ?_⟩, by dsimp only; omega, rfl, fitBs_refl _, fun _ _ _ h => h⟩)
        · refine ⟨rfl, .inr ⟨?_, rfl, i, rfl⟩⟩
          rw [List.all_eq_false]
          refine ⟨l.getD i b0, ?_, fun e => ?_⟩
          · rw [List.getD_eq_getElem?_getD, List.getElem?_eq_getElem hlt]; exact List.getElem_mem _
          · have h : (!okBy (l.getD i b0)) = true := h
            rw [e] at h; cases h
        · by_cases e : j = i
          · subst e
            have h : (!okBy (l.getD j b0)) = false := h
            simpa using h
          · exact h1 j (by omega)
      · obtain rfl : i = l.length := by omega
        refine cond_d (fun h => by omega) (fun _ => ⟨rfl, .inl ⟨?_, rfl, rfl⟩⟩)
        rw [List.all_eq_true]
        intro x hx
        obtain ⟨j, hj, rfl⟩ := List.getElem_of_mem hx
        have := h1 j hj
        rwa [List.getD_eq_getElem?_getD, List.getElem?_eq_getElem hj] at this
    · rintro lock t h K ⟨hf, _, k1, k2⟩
      refine ⟨0, hf, ⟨Nat.zero_le _, fun j hj => by omega⟩, ?_⟩
      rintro e vs bs ⟨rfl, ⟨g, rfl, rfl⟩ | ⟨g, rfl, i, rfl⟩⟩
      · exact k1 g
      · exact k2 g i
  · rintro lock t h K ⟨hf, hc, _⟩
    exact (hn hc).elim

theorem lXs_ok {l : List By} : LoopsOk Try.prog 60 [(0, lX l)] := fun x hx => by
  simp only [List.mem_singleton] at hx
  subst hx
  exact ⟨by kernel_rfl, lX_ok⟩

theorem cont_v (l : List By) (hn : l.length ≤ 100000) : ∃ h', CallsV Try.prog 51 [byD l, .func 49 [] []] ⟨0, []⟩ (.ret (.bool (!l.all okBy))) h' := by
  obtain ⟨r, h', rfl, hc⟩ := of_callN (callL_good hmix noSp (lXs_ok (l := l)) (un := 10) 20) (f := 51) (args := [byD l, .func 49 [] []]) (h := ⟨0, []⟩) (K := fun r _ => r = .ret (.bool (!l.all okBy))) (by
    refine cast (ct_ev l _).symm ?_
    refine ⟨fitP_self rfl, hn, fun h => ?_, fun h i => ?_⟩
    · rw [h]; rfl
    · rw [h, decide_eq_true (by omega)]; rfl)
  exact ⟨h', hc⟩

/-- Is some lot odd, as a row. -/
def contT : FuncId × Spec1 := (51, fun _ args h K => match args with
  | [x, .func 49 [] []] => ∃ l : List By, isT h x (byD l) ∧ l.length ≤ 100000 ∧ K (.ret (.bool (!l.all okBy))) h
  | _ => False)
theorem contT_ok : SpOk Try.prog contT.1 contT.2 := by
  intro lock args h K hK
  simp only [contT] at hK
  split at hK
  · obtain ⟨l, hx, hn, hK⟩ := hK
    obtain ⟨h', hc⟩ := cont_v l hn
    exact ⟨_, h, hK, lockP_refl _ _, calls_lendP hc rfl ⟨hx, ⟨rfl, rfl⟩, trivial⟩⟩
  · exact hK.elim

/-! Comparing lists. -/
theorem cmpL_drop (a b : List Int) (i : Nat) (ha : i < a.length) (hb : i < b.length) : cmpL (a.drop i) (b.drop i) = if a.getD i 0 < b.getD i 0 then -1 else if a.getD i 0 > b.getD i 0 then 1 else cmpL (a.drop (i + 1)) (b.drop (i + 1)) := by
  rw [List.drop_eq_getElem_cons ha, List.drop_eq_getElem_cons hb]
  simp only [cmpL, List.getD_eq_getElem?_getD, List.getElem?_eq_getElem ha, List.getElem?_eq_getElem hb, Option.getD_some]

def OC (a b : List Int) (_ : Nat) (e : VEx) (vs : List VV) (bs : List VB) : Prop :=
  bs = [] ∧ ((e = .exit 0 ∧ vs = VC a b a.length 0 ∧ (a.length < b.length → cmpL a b = -1) ∧ (¬ a.length < b.length → cmpL a b = 0)) ∨ (e = .ret ∧ ∃ (i : Int) (x : Int), vs = VC a b i x ∧ x = cmpL a b))

theorem lC_ok {a b : List Int} : LSound Try.prog true (.block 0 (.loop (loopB 0 (bodyOf Try.prog 54)))) 36 (lC a b) := by
  by_cases hn : a.length ≤ 100000 ∧ b.length ≤ 100000
  · refine loop_row hmix good0 (un := 10) (ds := dsC) (ns := []) (nx := 0) (fun i : Nat => VC a b i 0) (fun _ => []) (fun i => i ≤ a.length ∧ i ≤ b.length ∧ cmpL a b = cmpL (a.drop i) (b.drop i)) (fun i => a.length - i) (OC a b) noL_ok ?_ ?_
    · rintro i ⟨h0, h1, h2⟩
      refine cast (cm_ev a b i _).symm ?_
      by_cases hlt : i < a.length
      · refine cond_dk (by omega) (cond_dk ⟨by omega, by omega⟩ (cond_d (fun hb => ?_) (fun hb => cond_dk ⟨by omega, by omega⟩ (cond_nd (fun h => (h rfl).elim) (fun _ => cond_nd (fun h => (h rfl).elim) (fun _ => ?_))))))
        · refine ⟨rfl, .inr ⟨rfl, i, 1, rfl, ?_⟩⟩
          obtain rfl : i = b.length := by omega
          rw [h2, List.drop_length, List.drop_eq_getElem_cons hlt]; rfl
        · rw [show (i : Int).toNat = i by omega]
          have h3 := cmpL_drop a b i hlt (by omega)
          refine cond_d (fun hx => ⟨rfl, .inr ⟨rfl, i, _, rfl, ?_⟩⟩) (fun hx => cond_d (fun hy => ⟨rfl, .inr ⟨rfl, i, _, rfl, ?_⟩⟩) (fun hy => cond_r (by omega) ⟨i + 1, ⟨by omega, by omega, ?_⟩, by dsimp only; omega, rfl, fitBs_refl _, fun _ _ _ h => h⟩))
          · rw [h2, h3, if_pos hx]
          · rw [h2, h3, if_neg hx, if_pos hy]
          · rw [h2, h3, if_neg hx, if_neg hy]
      · obtain rfl : i = a.length := by omega
        refine cond_d (fun h => by omega) (fun _ => ⟨rfl, .inl ⟨rfl, rfl, fun h => ?_, fun h => ?_⟩⟩)
        · rw [h2, List.drop_length, List.drop_eq_getElem_cons h]; rfl
        · rw [h2, List.drop_length, show a.length = b.length by omega, List.drop_length]; rfl
    · rintro lock t h K ⟨hf, _, k1, k2⟩
      refine ⟨0, hf, ⟨Nat.zero_le _, Nat.zero_le _, by simp⟩, ?_⟩
      rintro e vs bs ⟨rfl, ⟨rfl, rfl, g1, g2⟩ | ⟨rfl, i, x, rfl, g⟩⟩
      · exact k2 g1 g2
      · exact k1 i x g
  · rintro lock t h K ⟨hf, hc, _⟩
    exact (hn hc).elim

theorem lCs_ok {a b : List Int} : LoopsOk Try.prog 54 [(0, lC a b)] := fun x hx => by
  simp only [List.mem_singleton] at hx
  subst hx
  exact ⟨by kernel_rfl, lC_ok⟩

theorem cmp_v (a b : List Int) (ha : a.length ≤ 100000) (hb : b.length ≤ 100000) : ∃ h', CallsV Try.prog 54 [inD a, inD b] ⟨0, []⟩ (.ret (I (cmpL a b))) h' := by
  obtain ⟨r, h', rfl, hc⟩ := of_callN (callL_good hmix noSp (lCs_ok (a := a) (b := b)) (un := 10) 20) (f := 54) (args := [inD a, inD b]) (h := ⟨0, []⟩) (K := fun r _ => r = .ret (I (cmpL a b))) (by
    refine cast (cp_ev a b _).symm ?_
    refine ⟨fitP_self rfl, ⟨ha, hb⟩, fun i x h => by rw [h], fun h1 h2 => cond_d (fun h => ?_) (fun h => ?_)⟩
    · rw [h1 (by omega)]
    · rw [h2 (by omega)])
  exact ⟨h', hc⟩

/-- Comparing two lists, as a row. -/
def cmpT : FuncId × Spec1 := (54, fun _ args h K => match args with
  | [x, y] => ∃ a b : List Int, isT h x (inD a) ∧ isT h y (inD b) ∧ a.length ≤ 100000 ∧ b.length ≤ 100000 ∧ K (.ret (I (cmpL a b))) h
  | _ => False)
theorem cmpT_ok : SpOk Try.prog cmpT.1 cmpT.2 := by
  intro lock args h K hK
  simp only [cmpT] at hK
  split at hK
  · obtain ⟨a, b, hx, hy, ha, hb, hK⟩ := hK
    obtain ⟨h', hc⟩ := cmp_v a b ha hb
    exact ⟨_, h, hK, lockP_refl _ _, calls_lendP hc rfl ⟨hx, hy, trivial⟩⟩
  · exact hK.elim
end Go.Sx.Grs

/- malt: a choice of lots. -/

namespace Go.Sx.Grs
open Go Go.Sx Go.Proofs
set_option maxRecDepth 1000000

theorem calls_lendO {P : Program} {f : FuncId} {args args' : List VV} {h hm' : VH} {r : VRes} {bl : List VB} (o : Nat) (hs : CallsV P f args ⟨0, []⟩ r hm') (hat : ∀ i, hm'.at (o + i) = (bl[i]?).getD .free) (hr : r.flat o = true) (hbl : ∀ c ∈ bl, c.flat) (ha : isTL h args' args) :
    CallsV P f args' h (r.sh o h.nx) (pushL h bl) :=
  calls_view_offF o (hm := ⟨0, []⟩) onlyArr0 hr hbl fun B R w xs em hx => ⟨R.arr, R.str, lentF w R, args, hm', lent_in em, hs, hat, ⟨fun n s ok g hn => by rw [at_ge (by omega)] at hn; cases hn⟩, isTL_at em ha hx⟩

theorem dG_l {S R : List Int} {j : Nat} (h : j < S.length) : dG S j = dG (S ++ R) j := by
  unfold dG; rw [List.getD_eq_getElem?_getD, List.getD_eq_getElem?_getD, List.getElem?_append_left h]
theorem dG_r {S R : List Int} {j : Nat} : dG (S ++ R) (S.length + j) = dG R j := by
  unfold dG; rw [List.getD_eq_getElem?_getD, List.getD_eq_getElem?_getD, List.getElem?_append_right (by omega), Nat.add_sub_cancel_left]
theorem fit_one {L : List Int} {y : Int} : (VB.vec (L ++ [y]).length (dG (L ++ [y])) 1 3).fit (.vec (L.length + 1) (catG L.length (dG L) fun j => List.take 1 (List.drop (j * 1) [I y])) 1 3) := by
  refine ⟨by simp, rfl, rfl, fun j hj => ?_⟩
  rw [List.length_append, List.length_singleton] at hj
  unfold catG
  by_cases hjk : j < L.length
  · rw [blt_t hjk]; exact dG_l hjk
  · rw [blt_f (by omega)]
    obtain rfl : j = L.length := by omega
    show List.take 1 (List.drop ((L.length - L.length) * 1) [I y]) = _
    rw [Nat.sub_self]
    have := dG_r (S := L) (R := [y]) (j := 0)
    exact this.symm
theorem room8 {n : Nat} (h : n ≤ 100000) : roomB n 8 = true := by
  unfold roomB
  simp only [Bool.and_eq_true, Nat.ble_eq]
  omega

theorem bit_v {s k : Nat} (hk : k < 64) : (IntKind.i64.wrap (↑(BitVec.ofInt IntKind.i64.bits ((s : Int).fdiv ((2 : Int) ^ min k IntKind.i64.bits)) &&& BitVec.ofInt IntKind.i64.bits (1 : Int)).toNat : Int) = 1) ↔ s.testBit k = true := by
  have e1 : IntKind.i64.bits = 64 := rfl
  rw [e1, Nat.min_eq_left (by omega)]
  have e2 : (s : Int).fdiv ((2 : Int) ^ k) = ((s / 2 ^ k : Nat) : Int) := by
    rw [Int.fdiv_eq_ediv_of_nonneg _ (by exact_mod_cast Nat.zero_le _)]
    rw [show ((2 : Int) ^ k) = ((2 ^ k : Nat) : Int) by push_cast; rfl]
    rfl
  rw [e2, show BitVec.ofInt 64 ((s / 2 ^ k : Nat) : Int) = BitVec.ofNat 64 (s / 2 ^ k) from BitVec.ofInt_natCast 64 _, show BitVec.ofInt 64 (1 : Int) = BitVec.ofNat 64 1 from rfl, BitVec.toNat_and, BitVec.toNat_ofNat, BitVec.toNat_ofNat]
  have e3 : (s / 2 ^ k % 2 ^ 64) &&& (1 % 2 ^ 64) = s / 2 ^ k % 2 := by
    rw [show (1 : Nat) % 2 ^ 64 = 1 from rfl, Nat.and_one_is_mod]
    omega
  rw [e3, Nat.testBit_eq_decide_div_mod_eq]
  rcases Nat.mod_two_eq_zero_or_one (s / 2 ^ k) with h | h <;> rw [h] <;> decide

theorem ok_get {l : List By} (hl : l.all okBy = true) {k : Nat} (hk : k < l.length) : okBy (l.getD k b0) = true := by
  rw [List.getD_eq_getElem?_getD, List.getElem?_eq_getElem hk]
  exact List.all_eq_true.1 hl _ (List.getElem_mem _)

theorem ok_bd {b : By} (h : okBy b = true) : (0 ≤ b.wl ∧ b.wl ≤ b.wh ∧ b.wh ≤ 91625968981) ∧ (0 ≤ b.nl ∧ b.nl ≤ b.nh ∧ b.nh ≤ 10000) ∧ (0 ≤ b.r ∧ b.r ≤ 65536) ∧ (0 ≤ b.p ∧ b.p ≤ 1073741824) := by
  unfold okBy at h
  simp only [Bool.and_eq_true, decide_eq_true_eq] at h
  obtain ⟨⟨⟨h1, h2⟩, h3⟩, h4⟩ := h
  exact ⟨h1, h2, h3, h4⟩

theorem ok_rich {b : By} (h : okBy b = true) : 0 ≤ b.wh * b.nh ∧ b.wh * b.nh ≤ 916259689810000 := by
  obtain ⟨⟨h1, h2, h3⟩, ⟨h4, h5, h6⟩, _, _⟩ := ok_bd h
  have e1 : 0 ≤ b.wh := by omega
  have e2 : 0 ≤ b.nh := by omega
  refine ⟨Int.mul_nonneg e1 e2, ?_⟩
  calc b.wh * b.nh ≤ 91625968981 * b.nh := Int.mul_le_mul_of_nonneg_right h3 e2
    _ ≤ 91625968981 * 10000 := Int.mul_le_mul_of_nonneg_left h6 (by omega)
    _ = 916259689810000 := rfl

def skBd (k : Nat) (x : Sk) : Prop := x.L.length ≤ k ∧ (0 ≤ x.p ∧ x.p ≤ k * 1073741824) ∧ (0 ≤ x.w ∧ x.w ≤ k * 91625968981) ∧ (0 ≤ x.r ∧ x.r ≤ k * 916259689810000) ∧ (0 ≤ x.d ∧ x.d ≤ 65536)

theorem fillF_bd {l : List By} {s : Nat} (hl : l.all okBy = true) : ∀ k, k ≤ l.length → skBd k (fillF l s k)
  | 0, _ => by simp [skBd, fillF]
  | k + 1, h => by
    obtain ⟨h1, ⟨h2, h3⟩, ⟨h4, h5⟩, ⟨h6, h7⟩, ⟨h8, h9⟩⟩ := fillF_bd (s := s) hl k (by omega)
    obtain ⟨⟨q1, q2, q3⟩, _, ⟨q4, q5⟩, q6, q7⟩ := ok_bd (ok_get hl (show k < l.length by omega))
    obtain ⟨q8, q9⟩ := ok_rich (ok_get hl (show k < l.length by omega))
    unfold fillF
    split
    · refine ⟨?_, ⟨?_, ?_⟩, ⟨?_, ?_⟩, ⟨?_, ?_⟩, ⟨?_, ?_⟩⟩ <;> dsimp only
      · rw [List.length_append, List.length_singleton]; omega
      all_goals omega
    · refine ⟨?_, ⟨?_, ?_⟩, ⟨?_, ?_⟩, ⟨?_, ?_⟩, ⟨?_, ?_⟩⟩ <;> omega

section
variable {l : List By} {s : Nat} {x : Sk}

theorem lFs_ok : LSound Try.prog true (.block 0 (.loop (loopB 0 (bodyOf Try.prog 53)))) 58 (lFs l s x) := by
  by_cases hn : l.all okBy = true ∧ l.length ≤ 40 ∧ x = fillF l s l.length
  · obtain ⟨hl, hn, rfl⟩ := hn
    refine loop_row hmix good0 (un := 10) (ds := dsF) (ns := [0, 1, 2]) (nx := 3) (fun k : Nat => VF l s k) (fun k => skB (fillF l s k)) (fun k => k ≤ l.length) (fun k => l.length - k) (fun _ e vs bs => e = .exit 0 ∧ vs = VF l s l.length ∧ bs = skB (fillF l s l.length)) noL_ok ?_ ?_
    · rintro k h0
      refine cast (fi_ev l s k _ _ _ _ _ _).symm ?_
      by_cases hlt : k < l.length
      · refine cond_dk (by omega) (cond_dk ⟨by omega, by omega⟩ (cond_d (fun h => by omega) (fun _ => ?_)))
        rw [show (k : Int).toNat = k by omega]
        obtain ⟨h1, ⟨h2, h3⟩, ⟨h4, h5⟩, ⟨h6, h7⟩, ⟨h8, h9⟩⟩ := fillF_bd (s := s) hl k (by omega)
        obtain ⟨⟨q1, q2, q3⟩, _, ⟨q4, q5⟩, q6, q7⟩ := ok_bd (ok_get hl hlt)
        obtain ⟨q8, q9⟩ := ok_rich (ok_get hl hlt)
        refine cond_d (fun hb => ?_) (fun hb => ?_)
        · have hb := (bit_v (by omega)).1 hb
          have hf : fillF l s (k + 1) = ⟨(fillF l s k).L ++ [(k : Int)], (fillF l s k).p + (l.getD k b0).p, (fillF l s k).w + (l.getD k b0).wl, (fillF l s k).r + (l.getD k b0).wh * (l.getD k b0).nh, max (fillF l s k).d (l.getD k b0).r⟩ := by
            conv => lhs; unfold fillF
            rw [if_pos hb]
          refine cond_k (Nat.beq_refl _) (cond_k (room8 (by omega)) (cond_r (by omega) (cond_r (by omega) (cond_r (by omega) (cond_r (by omega) (cond_r (by omega) ⟨k + 1, by omega, by dsimp only; omega, rfl, ?_, fun _ _ _ h => h⟩))))))
          dsimp only
          rw [hf]
          refine ⟨rfl, ?_, fit_one, trivial⟩
          show _ = _
          rw [List.length_append]; rfl
        · have hb : ¬ s.testBit k = true := fun h => hb ((bit_v (by omega)).2 h)
          have hf : fillF l s (k + 1) = fillF l s k := by
            conv => lhs; unfold fillF
            rw [if_neg hb]
          refine cond_r (by omega) ⟨k + 1, by omega, by dsimp only; omega, rfl, ?_, fun _ _ _ h => h⟩
          dsimp only
          rw [hf]
          exact fitBs_refl _
      · obtain rfl : k = l.length := by omega
        exact cond_d (fun h => by omega) (fun _ => ⟨rfl, rfl, rfl⟩)
    · rintro lock t h K ⟨hf, _, k1⟩
      refine ⟨0, hf, Nat.zero_le _, ?_⟩
      rintro e vs bs ⟨rfl, rfl, rfl⟩
      exact k1
  · rintro lock t h K ⟨hf, hc, _⟩
    exact (hn hc).elim

theorem lF_ok : LSound Try.prog true (.block 0 (.loop (loopB 0 (bodyOf Try.prog 53)))) 58 (lF l s x) :=
  ghost_cells_row (m := 1) (nx := 2) (cs := [.nils, I 0, I 0, I 0, I 0]) (cs' := [.sl 2 0, I 0, I 0, I 0, I 0]) (ty := 98)
    (bs := [0, 1].zip [.cells [.nils, I 0, I 0, I 0, I 0] 98, .cells [.nils, I 0, I 0, I 0, I 0] 98]) (t0 := dsF.zip (VF l s 0))
    (dG []) 1 3 lFs_ok rfl (fun R xs hv hx => by
      obtain ⟨a0, _, k0, k1, rfl⟩ := hx
      exact ⟨_, _, nil_ghost hv k0, k1, rfl⟩) (by
      rintro lock t h K ⟨hf, hi, hK⟩
      exact ⟨hf, ⟨⟨rfl, rfl, VB.fit_refl _, VB.fit_refl _, VB.fit_refl _, trivial⟩, rfl, rfl, rfl, rfl, rfl, rfl, trivial⟩, hi, hK⟩)

theorem lF_all : LoopsOk Try.prog 53 [(0, lF l s x)] := fun x hx => by
  simp only [List.mem_singleton] at hx
  subst hx
  exact ⟨by kernel_rfl, lF_ok⟩
end

def skV (x : Sk) (n : Nat) : VV := .agg [.sl n x.L.length, I x.p, I x.w, I x.r, I x.d]
def skL (x : Sk) : VB := .vec x.L.length (dG x.L) 1 3

theorem fill_v (l : List By) (s : Nat) (hl : l.all okBy = true) (hn : l.length ≤ 40) {x : Sk} (hx : x = fillF l s l.length) : ∃ h', CallsV Try.prog 53 [byD l, I s] ⟨0, []⟩ (.ret (skV x 2)) h' ∧ ∀ i, h'.at (2 + i) = ([skL x][i]?).getD .free := by
  obtain ⟨r, h', ⟨rfl, hb⟩, hc⟩ := of_callN (callL_good hmix noSp (lF_all (l := l) (s := s) (x := x)) (un := 10) 20) (f := 53) (args := [byD l, I s]) (h := ⟨0, []⟩) (K := fun r h => r = .ret (skV x 2) ∧ ∀ i, h.at (2 + i) = ([skL x][i]?).getD .free) (by
    refine cast (fl_ev2 l s x _).symm ?_
    refine ⟨fitP_self rfl, ⟨hl, hn, hx⟩, rfl, fun i => ?_⟩
    match i with
    | 0 => rfl
    | i + 1 => exact at_ge (by show ¬ 2 + (i + 1) < 3; omega))
  exact ⟨h', hc, hb⟩

/-- A choice, as a row. -/
def fillT : FuncId × Spec1 := (53, fun _ args h K => match args with
  | [y, .int .i64 s] => ∃ (l : List By) (n : Nat), isT h y (byD l) ∧ s = n ∧ l.all okBy = true ∧ l.length ≤ 40 ∧ ∀ x : Sk, x = fillF l n l.length → K (.ret (skV x h.nx)) (h.new (skL x))
  | _ => False)
theorem fillT_ok : SpOk Try.prog fillT.1 fillT.2 := by
  intro lock args h K hK
  simp only [fillT] at hK
  split at hK
  · rename_i y s
    obtain ⟨l, n, hy, rfl, hl, hn, hK⟩ := hK
    obtain ⟨h', hc, hb⟩ := fill_v l n hl hn rfl
    have := calls_lendO 2 hc hb rfl (fun c hc => by
      simp only [List.mem_singleton] at hc
      subst hc
      exact fun i hi => rfl) (args' := [y, I n]) (h := h) ⟨hy, ⟨rfl, rfl⟩, trivial⟩
    have e : (VRes.ret (skV (fillF l n l.length) 2)).sh 2 h.nx = .ret (skV (fillF l n l.length) h.nx) := by
      simp [VRes.sh, skV, VV.sh, shL, shN]
    rw [e] at this
    exact ⟨_, _, hK _ rfl, lockP_new _ _ _, this⟩
  · exact hK.elim
end Go.Sx.Grs

/- malt: Grist, evaluated. -/

namespace Go.Sx.Grs
open Go Go.Sx Go.Proofs
set_option maxRecDepth 1000000

def rfOf : Code → Option (Code × Code)
  | .rangeFunc _ _ ac bd => some (ac, bd)
  | .seq a b => match rfOf a with
    | some r => some r
    | none => rfOf b
  | .block _ b => rfOf b
  | _ => none
def rfAs (P : Program) (f : FuncId) : Code := match rfOf (bodyOf P f) with
  | some (ac, _) => ac
  | none => .skip
def rfBd (P : Program) (f : FuncId) : Code := match rfOf (bodyOf P f) with
  | some (_, bd) => bd
  | none => .skip
noncomputable def asG : Code := rfAs Try.prog 28
noncomputable def bdG : Code := rfBd Try.prog 28
def slG (l : List By) (day need nit : Int) (w : Bool) : Slots := [(40, VV.func 61 [] [VV.ptr (VA.own (5) 0)]), (39, I (↑l.length : Int)), (38, VV.tl l.length 6 (byG l)), (12, VV.ptr (VA.own (4) 0)), (24, VV.bool false), (24, VV.bool !decide (nit ≤ (10000 : Int))), (37, VV.bool !decide (nit ≤ (10000 : Int))), (36, VV.bool !decide (nit ≤ (10000 : Int))), (33, VV.bool false), (35, VV.bool (decide (nit ≤ (10000 : Int)))), (33, VV.bool false), (34, I nit), (33, VV.bool false), (33, VV.bool !decide (need ≤ (1099511627776 : Int))), (32, VV.bool !decide (need ≤ (1099511627776 : Int))), (31, VV.bool !decide (need ≤ (1099511627776 : Int))), (28, VV.bool false), (30, VV.bool (decide (need ≤ (1099511627776 : Int)))), (28, VV.bool false), (29, I need), (28, VV.bool false), (28, VV.bool !decide (day ≤ (65536 : Int))), (27, VV.bool !decide (day ≤ (65536 : Int))), (26, VV.bool (decide (day ≤ (65536 : Int)))), (25, I day), (15, VV.bool false), (15, VV.bool !w), (23, VV.bool !w), (22, VV.bool !w), (19, VV.bool false), (21, VV.func 49 [] []), (19, VV.bool false), (20, VV.tl l.length 6 (byG l)), (19, VV.bool false), (19, VV.bool (decide ((↑l.length : Int) > (12 : Int)))), (18, VV.bool (decide ((↑l.length : Int) > (12 : Int)))), (17, I (↑l.length : Int)), (16, VV.tl l.length 6 (byG l)), (11, VV.func 49 [] []), (10, I 0), (9, I 0), (8, VV.nils), (7, VV.ptr (VA.own (3) 0)), (6, VV.ptr (VA.own (2) 0)), (5, VV.ptr (VA.own (1) 0)), (4, VV.ptr (VA.own 0 0)), (0, byD l), (1, I day), (2, I need), (3, I nit)]
noncomputable def recG (l : List By) (day need nit : Int) (w : Bool) : VB := .loop true none (slG l day need nit w) 126 [41] asG bdG
abbrev nG (l : List By) : Int := (1 : Int) * (2 : Int) ^ min (↑l.length : Int).toNat IntKind.i64.bits
def dsG : List Nat := [6, 5, 4, 0, 1]
def VG (l : List By) (i : Int) : List VV := [I i, I (nG l), I l.length, .yld 6, .ptr (.own 5 0)]
def nsG : List Nat := [0, 1, 2, 3, 4, 5, 6]
noncomputable def BG (l : List By) (day need nit : Int) (w : Bool) (best : VV) : List VB := [.cells [byD l] 59, .cells [I day] 3, .cells [I need] 3, .cells [I nit] 3, .cells [best] 93, .cells [I l.length] 3, recG l day need nit w]
def skT (x : Sk) : VV := .tp [inD x.L, I x.p, I x.w, I x.r, I x.d]
theorem r0_ev (l : List By) (day need nit : Int) (w : Bool) (i : Int) (X : VEx → List VV → List VB → Prop) : codeE Try.prog (callN Try.prog (tabS [fillT, cmpT]) noL 10 20) (fun _ => none) true 10 14 0 (loopB 0 (bodyOf Try.prog 61)) (dsG.zip (VG l i)) ⟨7, nsG.zip (BG l day need nit w .nilp)⟩ (obsZ [(8, 0), (4, 0)] 7 dsG nsG X) =
  (bif decide (i < nG l) then
 ∃ (l_1 : List By) (n : Nat), isT (VH.mk 7 ((6, VB.gone) :: nsG.zip (BG l day need nit w VV.nilp))) (VV.tl l.length 6 (byG l)) (byD l_1) ∧ i = (↑n : Int) ∧ l_1.all okBy = true ∧ l_1.length ≤ 40 ∧ ∀ (x : Sk), x = fillF l_1 n l_1.length → bif decide (x.d > day) then
 bif inK IntKind.i64 (i + (1 : Int)) then
 bif x.L.length.beq x.L.length && Nat.ble 1 1 && !(VH.mk 7 ((6, VB.gone) :: nsG.zip (BG l day need nit w VV.nilp))).nx.beq 8 then
 X VEx.normal [I (i + (1 : Int)), I (nG l), I (↑l.length : Int), VV.yld 6, VV.ptr (VA.own 5 0)] [VB.cells [VV.tl l.length 6 (byG l)] (59 : TypeId), VB.cells [I day] (3 : TypeId), VB.cells [I need] (3 : TypeId), VB.cells [I nit] (3 : TypeId), VB.cells [VV.nilp] (93 : TypeId), VB.cells [I (↑l.length : Int)] (3 : TypeId), VB.loop true none (slG l day need nit w) 126 [41] asG bdG]
 else X VEx.normal [I (i + (1 : Int)), I (nG l), I (↑l.length : Int), VV.yld 6, VV.ptr (VA.own 5 0)] [VB.cells [VV.tl l.length 6 (byG l)] (59 : TypeId), VB.cells [I day] (3 : TypeId), VB.cells [I need] (3 : TypeId), VB.cells [I nit] (3 : TypeId), VB.cells [VV.nilp] (93 : TypeId), VB.cells [I (↑l.length : Int)] (3 : TypeId), VB.loop true none (slG l day need nit w) 126 [41] asG bdG]
 else False
 else bif decide (x.w < need) then
 bif inK IntKind.i64 (i + (1 : Int)) then
 bif x.L.length.beq x.L.length && Nat.ble 1 1 && !(VH.mk 7 ((6, VB.gone) :: nsG.zip (BG l day need nit w VV.nilp))).nx.beq 8 then
 X VEx.normal [I (i + (1 : Int)), I (nG l), I (↑l.length : Int), VV.yld 6, VV.ptr (VA.own 5 0)] [VB.cells [VV.tl l.length 6 (byG l)] (59 : TypeId), VB.cells [I day] (3 : TypeId), VB.cells [I need] (3 : TypeId), VB.cells [I nit] (3 : TypeId), VB.cells [VV.nilp] (93 : TypeId), VB.cells [I (↑l.length : Int)] (3 : TypeId), VB.loop true none (slG l day need nit w) 126 [41] asG bdG]
 else X VEx.normal [I (i + (1 : Int)), I (nG l), I (↑l.length : Int), VV.yld 6, VV.ptr (VA.own 5 0)] [VB.cells [VV.tl l.length 6 (byG l)] (59 : TypeId), VB.cells [I day] (3 : TypeId), VB.cells [I need] (3 : TypeId), VB.cells [I nit] (3 : TypeId), VB.cells [VV.nilp] (93 : TypeId), VB.cells [I (↑l.length : Int)] (3 : TypeId), VB.loop true none (slG l day need nit w) 126 [41] asG bdG]
 else False
 else bif inK IntKind.i64 (nit * x.w) then
 bif decide (x.r > nit * x.w) then
 bif inK IntKind.i64 (i + (1 : Int)) then
 bif x.L.length.beq x.L.length && Nat.ble 1 1 && !(VH.mk 7 ((6, VB.gone) :: nsG.zip (BG l day need nit w VV.nilp))).nx.beq 8 then
 X VEx.normal [I (i + (1 : Int)), I (nG l), I (↑l.length : Int), VV.yld 6, VV.ptr (VA.own 5 0)] [VB.cells [VV.tl l.length 6 (byG l)] (59 : TypeId), VB.cells [I day] (3 : TypeId), VB.cells [I need] (3 : TypeId), VB.cells [I nit] (3 : TypeId), VB.cells [VV.nilp] (93 : TypeId), VB.cells [I (↑l.length : Int)] (3 : TypeId), VB.loop true none (slG l day need nit w) 126 [41] asG bdG]
 else X VEx.normal [I (i + (1 : Int)), I (nG l), I (↑l.length : Int), VV.yld 6, VV.ptr (VA.own 5 0)] [VB.cells [VV.tl l.length 6 (byG l)] (59 : TypeId), VB.cells [I day] (3 : TypeId), VB.cells [I need] (3 : TypeId), VB.cells [I nit] (3 : TypeId), VB.cells [VV.nilp] (93 : TypeId), VB.cells [I (↑l.length : Int)] (3 : TypeId), VB.loop true none (slG l day need nit w) 126 [41] asG bdG]
 else False
 else bif inK IntKind.i64 (i + (1 : Int)) then
 bif x.L.length.beq x.L.length && Nat.ble 1 1 && !(VH.mk 7 ((6, VB.gone) :: nsG.zip (BG l day need nit w VV.nilp))).nx.beq 8 then
 X VEx.normal [I (i + (1 : Int)), I (nG l), I (↑l.length : Int), VV.yld 6, VV.ptr (VA.own 5 0)] [VB.cells [VV.tl l.length 6 (byG l)] (59 : TypeId), VB.cells [I day] (3 : TypeId), VB.cells [I need] (3 : TypeId), VB.cells [I nit] (3 : TypeId), VB.cells [VV.tp [VV.tl x.L.length 1 (dG x.L), I x.p, I x.w, I x.r, I x.d]] (93 : TypeId), VB.cells [I (↑l.length : Int)] (3 : TypeId), VB.loop true none (slG l day need nit w) 126 [41] asG bdG]
 else False
 else False
 else False
 else X (VEx.exit 0) [I i, I (nG l), I (↑l.length : Int), VV.yld 6, VV.ptr (VA.own 5 0)] [VB.cells [VV.tl l.length 6 (byG l)] (59 : TypeId), VB.cells [I day] (3 : TypeId), VB.cells [I need] (3 : TypeId), VB.cells [I nit] (3 : TypeId), VB.cells [VV.nilp] (93 : TypeId), VB.cells [I (↑l.length : Int)] (3 : TypeId), VB.loop true none (slG l day need nit w) 126 [41] asG bdG]) := by kernel_rfl

theorem r1_ev (l : List By) (day need nit : Int) (w : Bool) (i : Int) (y : Sk) (X : VEx → List VV → List VB → Prop) : codeE Try.prog (callN Try.prog (tabS [fillT, cmpT]) noL 10 20) (fun _ => none) true 10 14 0 (loopB 0 (bodyOf Try.prog 61)) (dsG.zip (VG l i)) ⟨7, nsG.zip (BG l day need nit w (skT y))⟩ (obsZ [(8, 0), (4, 0)] 7 dsG nsG X) =
  (bif decide (i < nG l) then
 ∃ (l_1 : List By) (n : Nat), isT (VH.mk 7 ((6, VB.gone) :: nsG.zip (BG l day need nit w (skT y)))) (VV.tl l.length 6 (byG l)) (byD l_1) ∧ i = (↑n : Int) ∧ l_1.all okBy = true ∧ l_1.length ≤ 40 ∧ ∀ (x : Sk), x = fillF l_1 n l_1.length → bif decide (x.d > day) then
 bif inK IntKind.i64 (i + (1 : Int)) then
 bif x.L.length.beq x.L.length && Nat.ble 1 1 && !(VH.mk 7 ((6, VB.gone) :: nsG.zip (BG l day need nit w (skT y)))).nx.beq 8 then
 X VEx.normal [I (i + (1 : Int)), I (nG l), I (↑l.length : Int), VV.yld 6, VV.ptr (VA.own 5 0)] [VB.cells [VV.tl l.length 6 (byG l)] (59 : TypeId), VB.cells [I day] (3 : TypeId), VB.cells [I need] (3 : TypeId), VB.cells [I nit] (3 : TypeId), VB.cells [VV.tp [VV.tl y.L.length 1 (dG y.L), I y.p, I y.w, I y.r, I y.d]] (93 : TypeId), VB.cells [I (↑l.length : Int)] (3 : TypeId), VB.loop true none (slG l day need nit w) 126 [41] asG bdG]
 else X VEx.normal [I (i + (1 : Int)), I (nG l), I (↑l.length : Int), VV.yld 6, VV.ptr (VA.own 5 0)] [VB.cells [VV.tl l.length 6 (byG l)] (59 : TypeId), VB.cells [I day] (3 : TypeId), VB.cells [I need] (3 : TypeId), VB.cells [I nit] (3 : TypeId), VB.cells [VV.tp [VV.tl y.L.length 1 (dG y.L), I y.p, I y.w, I y.r, I y.d]] (93 : TypeId), VB.cells [I (↑l.length : Int)] (3 : TypeId), VB.loop true none (slG l day need nit w) 126 [41] asG bdG]
 else False
 else bif decide (x.w < need) then
 bif inK IntKind.i64 (i + (1 : Int)) then
 bif x.L.length.beq x.L.length && Nat.ble 1 1 && !(VH.mk 7 ((6, VB.gone) :: nsG.zip (BG l day need nit w (skT y)))).nx.beq 8 then
 X VEx.normal [I (i + (1 : Int)), I (nG l), I (↑l.length : Int), VV.yld 6, VV.ptr (VA.own 5 0)] [VB.cells [VV.tl l.length 6 (byG l)] (59 : TypeId), VB.cells [I day] (3 : TypeId), VB.cells [I need] (3 : TypeId), VB.cells [I nit] (3 : TypeId), VB.cells [VV.tp [VV.tl y.L.length 1 (dG y.L), I y.p, I y.w, I y.r, I y.d]] (93 : TypeId), VB.cells [I (↑l.length : Int)] (3 : TypeId), VB.loop true none (slG l day need nit w) 126 [41] asG bdG]
 else X VEx.normal [I (i + (1 : Int)), I (nG l), I (↑l.length : Int), VV.yld 6, VV.ptr (VA.own 5 0)] [VB.cells [VV.tl l.length 6 (byG l)] (59 : TypeId), VB.cells [I day] (3 : TypeId), VB.cells [I need] (3 : TypeId), VB.cells [I nit] (3 : TypeId), VB.cells [VV.tp [VV.tl y.L.length 1 (dG y.L), I y.p, I y.w, I y.r, I y.d]] (93 : TypeId), VB.cells [I (↑l.length : Int)] (3 : TypeId), VB.loop true none (slG l day need nit w) 126 [41] asG bdG]
 else False
 else bif inK IntKind.i64 (nit * x.w) then
 bif decide (x.r > nit * x.w) then
 bif inK IntKind.i64 (i + (1 : Int)) then
 bif x.L.length.beq x.L.length && Nat.ble 1 1 && !(VH.mk 7 ((6, VB.gone) :: nsG.zip (BG l day need nit w (skT y)))).nx.beq 8 then
 X VEx.normal [I (i + (1 : Int)), I (nG l), I (↑l.length : Int), VV.yld 6, VV.ptr (VA.own 5 0)] [VB.cells [VV.tl l.length 6 (byG l)] (59 : TypeId), VB.cells [I day] (3 : TypeId), VB.cells [I need] (3 : TypeId), VB.cells [I nit] (3 : TypeId), VB.cells [VV.tp [VV.tl y.L.length 1 (dG y.L), I y.p, I y.w, I y.r, I y.d]] (93 : TypeId), VB.cells [I (↑l.length : Int)] (3 : TypeId), VB.loop true none (slG l day need nit w) 126 [41] asG bdG]
 else X VEx.normal [I (i + (1 : Int)), I (nG l), I (↑l.length : Int), VV.yld 6, VV.ptr (VA.own 5 0)] [VB.cells [VV.tl l.length 6 (byG l)] (59 : TypeId), VB.cells [I day] (3 : TypeId), VB.cells [I need] (3 : TypeId), VB.cells [I nit] (3 : TypeId), VB.cells [VV.tp [VV.tl y.L.length 1 (dG y.L), I y.p, I y.w, I y.r, I y.d]] (93 : TypeId), VB.cells [I (↑l.length : Int)] (3 : TypeId), VB.loop true none (slG l day need nit w) 126 [41] asG bdG]
 else False
 else bif decide (x.p < y.p) then
 bif inK IntKind.i64 (i + (1 : Int)) then
 bif x.L.length.beq x.L.length && Nat.ble 1 1 && !(VH.mk 7 ((6, VB.gone) :: nsG.zip (BG l day need nit w (skT y)))).nx.beq 8 then
 X VEx.normal [I (i + (1 : Int)), I (nG l), I (↑l.length : Int), VV.yld 6, VV.ptr (VA.own 5 0)] [VB.cells [VV.tl l.length 6 (byG l)] (59 : TypeId), VB.cells [I day] (3 : TypeId), VB.cells [I need] (3 : TypeId), VB.cells [I nit] (3 : TypeId), VB.cells [VV.tp [VV.tl x.L.length 1 (dG x.L), I x.p, I x.w, I x.r, I x.d]] (93 : TypeId), VB.cells [I (↑l.length : Int)] (3 : TypeId), VB.loop true none (slG l day need nit w) 126 [41] asG bdG]
 else False
 else False
 else bif decide (x.p = y.p) then
 bif decide ((↑x.L.length : Int) < (↑y.L.length : Int)) then
 bif inK IntKind.i64 (i + (1 : Int)) then
 bif x.L.length.beq x.L.length && Nat.ble 1 1 && !(VH.mk 7 ((6, VB.gone) :: nsG.zip (BG l day need nit w (skT y)))).nx.beq 8 then
 X VEx.normal [I (i + (1 : Int)), I (nG l), I (↑l.length : Int), VV.yld 6, VV.ptr (VA.own 5 0)] [VB.cells [VV.tl l.length 6 (byG l)] (59 : TypeId), VB.cells [I day] (3 : TypeId), VB.cells [I need] (3 : TypeId), VB.cells [I nit] (3 : TypeId), VB.cells [VV.tp [VV.tl x.L.length 1 (dG x.L), I x.p, I x.w, I x.r, I x.d]] (93 : TypeId), VB.cells [I (↑l.length : Int)] (3 : TypeId), VB.loop true none (slG l day need nit w) 126 [41] asG bdG]
 else False
 else False
 else bif decide ((↑x.L.length : Int) = (↑y.L.length : Int)) then
 ∃ a b, isT (VH.mk (9) ((8, VB.cells [VV.sl (VH.mk 7 ((6, VB.gone) :: nsG.zip (BG l day need nit w (skT y)))).nx x.L.length, I x.p, I x.w, I x.r, I x.d] 98) :: (8, VB.cells [VV.nils, I 0, I 0, I 0, I 0] 98) :: ((VH.mk 7 ((6, VB.gone) :: nsG.zip (BG l day need nit w (skT y)))).nx, skL x) :: (VH.mk 7 ((6, VB.gone) :: nsG.zip (BG l day need nit w (skT y)))).bs)) (VV.sl (VH.mk 7 ((6, VB.gone) :: nsG.zip (BG l day need nit w (skT y)))).nx x.L.length) (inD a) ∧ isT (VH.mk (9) ((8, VB.cells [VV.sl (VH.mk 7 ((6, VB.gone) :: nsG.zip (BG l day need nit w (skT y)))).nx x.L.length, I x.p, I x.w, I x.r, I x.d] 98) :: (8, VB.cells [VV.nils, I 0, I 0, I 0, I 0] 98) :: ((VH.mk 7 ((6, VB.gone) :: nsG.zip (BG l day need nit w (skT y)))).nx, skL x) :: (VH.mk 7 ((6, VB.gone) :: nsG.zip (BG l day need nit w (skT y)))).bs)) (VV.tl y.L.length 1 (dG y.L)) (inD b) ∧ a.length ≤ 100000 ∧ b.length ≤ 100000 ∧ bif decide (cmpL a b < (0 : Int)) then
 bif inK IntKind.i64 (i + (1 : Int)) then
 bif x.L.length.beq x.L.length && Nat.ble 1 1 && !(VH.mk 7 ((6, VB.gone) :: nsG.zip (BG l day need nit w (skT y)))).nx.beq 8 then
 X VEx.normal [I (i + (1 : Int)), I (nG l), I (↑l.length : Int), VV.yld 6, VV.ptr (VA.own 5 0)] [VB.cells [VV.tl l.length 6 (byG l)] (59 : TypeId), VB.cells [I day] (3 : TypeId), VB.cells [I need] (3 : TypeId), VB.cells [I nit] (3 : TypeId), VB.cells [VV.tp [VV.tl x.L.length 1 (dG x.L), I x.p, I x.w, I x.r, I x.d]] (93 : TypeId), VB.cells [I (↑l.length : Int)] (3 : TypeId), VB.loop true none (slG l day need nit w) 126 [41] asG bdG]
 else False
 else False
 else bif inK IntKind.i64 (i + (1 : Int)) then
 bif x.L.length.beq x.L.length && Nat.ble 1 1 && !(VH.mk 7 ((6, VB.gone) :: nsG.zip (BG l day need nit w (skT y)))).nx.beq 8 then
 X VEx.normal [I (i + (1 : Int)), I (nG l), I (↑l.length : Int), VV.yld 6, VV.ptr (VA.own 5 0)] [VB.cells [VV.tl l.length 6 (byG l)] (59 : TypeId), VB.cells [I day] (3 : TypeId), VB.cells [I need] (3 : TypeId), VB.cells [I nit] (3 : TypeId), VB.cells [VV.tp [VV.tl y.L.length 1 (dG y.L), I y.p, I y.w, I y.r, I y.d]] (93 : TypeId), VB.cells [I (↑l.length : Int)] (3 : TypeId), VB.loop true none (slG l day need nit w) 126 [41] asG bdG]
 else X VEx.normal [I (i + (1 : Int)), I (nG l), I (↑l.length : Int), VV.yld 6, VV.ptr (VA.own 5 0)] [VB.cells [VV.tl l.length 6 (byG l)] (59 : TypeId), VB.cells [I day] (3 : TypeId), VB.cells [I need] (3 : TypeId), VB.cells [I nit] (3 : TypeId), VB.cells [VV.tp [VV.tl y.L.length 1 (dG y.L), I y.p, I y.w, I y.r, I y.d]] (93 : TypeId), VB.cells [I (↑l.length : Int)] (3 : TypeId), VB.loop true none (slG l day need nit w) 126 [41] asG bdG]
 else False
 else bif inK IntKind.i64 (i + (1 : Int)) then
 bif x.L.length.beq x.L.length && Nat.ble 1 1 && !(VH.mk 7 ((6, VB.gone) :: nsG.zip (BG l day need nit w (skT y)))).nx.beq 8 then
 X VEx.normal [I (i + (1 : Int)), I (nG l), I (↑l.length : Int), VV.yld 6, VV.ptr (VA.own 5 0)] [VB.cells [VV.tl l.length 6 (byG l)] (59 : TypeId), VB.cells [I day] (3 : TypeId), VB.cells [I need] (3 : TypeId), VB.cells [I nit] (3 : TypeId), VB.cells [VV.tp [VV.tl y.L.length 1 (dG y.L), I y.p, I y.w, I y.r, I y.d]] (93 : TypeId), VB.cells [I (↑l.length : Int)] (3 : TypeId), VB.loop true none (slG l day need nit w) 126 [41] asG bdG]
 else X VEx.normal [I (i + (1 : Int)), I (nG l), I (↑l.length : Int), VV.yld 6, VV.ptr (VA.own 5 0)] [VB.cells [VV.tl l.length 6 (byG l)] (59 : TypeId), VB.cells [I day] (3 : TypeId), VB.cells [I need] (3 : TypeId), VB.cells [I nit] (3 : TypeId), VB.cells [VV.tp [VV.tl y.L.length 1 (dG y.L), I y.p, I y.w, I y.r, I y.d]] (93 : TypeId), VB.cells [I (↑l.length : Int)] (3 : TypeId), VB.loop true none (slG l day need nit w) 126 [41] asG bdG]
 else False
 else bif inK IntKind.i64 (i + (1 : Int)) then
 bif x.L.length.beq x.L.length && Nat.ble 1 1 && !(VH.mk 7 ((6, VB.gone) :: nsG.zip (BG l day need nit w (skT y)))).nx.beq 8 then
 X VEx.normal [I (i + (1 : Int)), I (nG l), I (↑l.length : Int), VV.yld 6, VV.ptr (VA.own 5 0)] [VB.cells [VV.tl l.length 6 (byG l)] (59 : TypeId), VB.cells [I day] (3 : TypeId), VB.cells [I need] (3 : TypeId), VB.cells [I nit] (3 : TypeId), VB.cells [VV.tp [VV.tl y.L.length 1 (dG y.L), I y.p, I y.w, I y.r, I y.d]] (93 : TypeId), VB.cells [I (↑l.length : Int)] (3 : TypeId), VB.loop true none (slG l day need nit w) 126 [41] asG bdG]
 else X VEx.normal [I (i + (1 : Int)), I (nG l), I (↑l.length : Int), VV.yld 6, VV.ptr (VA.own 5 0)] [VB.cells [VV.tl l.length 6 (byG l)] (59 : TypeId), VB.cells [I day] (3 : TypeId), VB.cells [I need] (3 : TypeId), VB.cells [I nit] (3 : TypeId), VB.cells [VV.tp [VV.tl y.L.length 1 (dG y.L), I y.p, I y.w, I y.r, I y.d]] (93 : TypeId), VB.cells [I (↑l.length : Int)] (3 : TypeId), VB.loop true none (slG l day need nit w) 126 [41] asG bdG]
 else False
 else False
 else X (VEx.exit 0) [I i, I (nG l), I (↑l.length : Int), VV.yld 6, VV.ptr (VA.own 5 0)] [VB.cells [VV.tl l.length 6 (byG l)] (59 : TypeId), VB.cells [I day] (3 : TypeId), VB.cells [I need] (3 : TypeId), VB.cells [I nit] (3 : TypeId), VB.cells [VV.tp [VV.tl y.L.length 1 (dG y.L), I y.p, I y.w, I y.r, I y.d]] (93 : TypeId), VB.cells [I (↑l.length : Int)] (3 : TypeId), VB.loop true none (slG l day need nit w) 126 [41] asG bdG]) := by kernel_rfl

def fitS (day need nit : Int) (x : Sk) : Bool := !decide (x.d > day) && !decide (x.w < need) && !decide (x.r > nit * x.w)
def better (x y : Sk) : Bool := decide (x.p < y.p ∨ x.p = y.p ∧ (x.L.length < y.L.length ∨ x.L.length = y.L.length ∧ cmpL x.L y.L < 0))
def stepG (day need nit : Int) (b : Option Sk) (x : Sk) : Option Sk := if fitS day need nit x then (match b with
  | none => some x
  | some y => if better x y then some x else some y) else b
def bestG (l : List By) (day need nit : Int) : Nat → Option Sk
  | 0 => none
  | k + 1 => stepG day need nit (bestG l day need nit k) (fillF l k l.length)
noncomputable def lG (l : List By) (day need nit : Int) (w : Bool) : LT := fun lock t h K =>
  FitP lock h t ⟨7, nsG.zip (BG l day need nit w .nilp)⟩ (dsG.zip (VG l 0)) ∧ (l.all okBy = true ∧ l.length ≤ 12 ∧ 0 ≤ nit ∧ nit ≤ 10000) ∧ (bestG l day need nit (2 ^ l.length) = none → K .normal (dsG.zip (VG l (nG l))) ⟨7, nsG.zip (BG l day need nit w .nilp)⟩) ∧
    ∀ y, bestG l day need nit (2 ^ l.length) = some y → K .normal (dsG.zip (VG l (nG l))) ⟨7, nsG.zip (BG l day need nit w (skT y))⟩
theorem g_ev (l : List By) (day need nit : Int) (w : Bool) (Q : VRes → Prop) : callN Try.prog (tabS [contT]) (atF 61 [(0, lG l day need nit w)]) 10 20 0 (.fn 28) [byD l, I day, I need, I nit] ⟨0, []⟩ (fun r h => Q r) =
  (bif decide ((↑l.length : Int) > (12 : Int)) then
 Q (VRes.ret (VV.tup [VV.nils, I 0, I 1]))
 else ∃ l_1, isT (VH.mk (4) [(3, VB.cells [I nit] 3), (2, VB.cells [I need] 3), (1, VB.cells [I day] 3), (0, VB.cells [VV.tl l.length 6 (byG l)] 59)]) (VV.tl l.length 6 (byG l)) (byD l_1) ∧ l_1.length ≤ 100000 ∧ bif !l_1.all okBy then
 Q (VRes.ret (VV.tup [VV.nils, I 0, I 1]))
 else bif decide (day ≥ (0 : Int)) then
 bif !decide (day ≤ (65536 : Int)) then
 Q (VRes.ret (VV.tup [VV.nils, I 0, I 2]))
 else bif decide (need ≥ (0 : Int)) then
 bif !decide (need ≤ (1099511627776 : Int)) then
 Q (VRes.ret (VV.tup [VV.nils, I 0, I 2]))
 else bif decide (nit ≥ (0 : Int)) then
 bif !decide (nit ≤ (10000 : Int)) then
 Q (VRes.ret (VV.tup [VV.nils, I 0, I 2]))
 else bif inK IntKind.i64 ((1 : Int) * (2 : Int) ^ min (↑l.length : Int).toNat IntKind.i64.bits) then
 FitP 0 (VH.mk (7) [(6, VB.loop true none [(40, VV.func 61 [] [VV.ptr (VA.own (5) 0)]), (39, I (↑l.length : Int)), (38, VV.tl l.length 6 (byG l)), (12, VV.ptr (VA.own (4) 0)), (24, VV.bool false), (24, VV.bool !decide (nit ≤ (10000 : Int))), (37, VV.bool !decide (nit ≤ (10000 : Int))), (36, VV.bool !decide (nit ≤ (10000 : Int))), (33, VV.bool false), (35, VV.bool (decide (nit ≤ (10000 : Int)))), (33, VV.bool false), (34, I nit), (33, VV.bool false), (33, VV.bool !decide (need ≤ (1099511627776 : Int))), (32, VV.bool !decide (need ≤ (1099511627776 : Int))), (31, VV.bool !decide (need ≤ (1099511627776 : Int))), (28, VV.bool false), (30, VV.bool (decide (need ≤ (1099511627776 : Int)))), (28, VV.bool false), (29, I need), (28, VV.bool false), (28, VV.bool !decide (day ≤ (65536 : Int))), (27, VV.bool !decide (day ≤ (65536 : Int))), (26, VV.bool (decide (day ≤ (65536 : Int)))), (25, I day), (15, VV.bool false), (15, VV.bool !l_1.all okBy), (23, VV.bool !l_1.all okBy), (22, VV.bool !l_1.all okBy), (19, VV.bool false), (21, VV.func 49 [] []), (19, VV.bool false), (20, VV.tl l.length 6 (byG l)), (19, VV.bool false), (19, VV.bool (decide ((↑l.length : Int) > (12 : Int)))), (18, VV.bool (decide ((↑l.length : Int) > (12 : Int)))), (17, I (↑l.length : Int)), (16, VV.tl l.length 6 (byG l)), (11, VV.func 49 [] []), (10, I 0), (9, I 0), (8, VV.nils), (7, VV.ptr (VA.own (3) 0)), (6, VV.ptr (VA.own (2) 0)), (5, VV.ptr (VA.own (1) 0)), (4, VV.ptr (VA.own 0 0)), (0, byD l), (1, I day), (2, I need), (3, I nit)] (126) #[41].toList (Code.region 8 #[Oper.mk (some 13) (Op.assign (Operand.tmp 41)) 3 "malt.go:271" #[] none] false) (Code.block 2 ((Code.region 9 #[Oper.mk (some 42) (Op.load 59 (Operand.tmp 4)) 59 "malt.go:272" #[] none, Oper.mk (some 43) (Op.move (Operand.tmp 13)) 3 "malt.go:272" #[] none, Oper.mk (some 44) (Op.call (Call.mk (Callee.value (Operand.func 53)) #[Operand.tmp 42, Operand.tmp 43] #[59, 3])) 98 "malt.go:272" #[Edge.mk 0 Ground.data, Edge.mk 1 Ground.data] none, Oper.mk (some 14) (Op.alloc 98) 0 "malt.go:272" #[] none, Oper.mk none (Op.store 98 (Operand.tmp 14) (Operand.tmp 44)) 0 "malt.go:272" #[Edge.mk 3 Ground.data, Edge.mk 2 Ground.data, Edge.mk 2 Ground.chain, Edge.mk 0 Ground.phase, Edge.mk 1 Ground.phase, Edge.mk 2 Ground.phase, Edge.mk 3 Ground.phase] none] false).seq (((Code.region 10 #[Oper.mk (some 45) (Op.fieldAddr 98 (Operand.tmp 14) 4) 0 "malt.go:273" #[] none, Oper.mk (some 46) (Op.load 3 (Operand.tmp 45)) 3 "malt.go:273" #[Edge.mk 0 Ground.data] none, Oper.mk (some 47) (Op.load 3 (Operand.tmp 5)) 3 "malt.go:273" #[] none, Oper.mk (some 48) (Op.binOp BinOp.gtr 3 (Operand.tmp 46) (Operand.tmp 47) 3) 4 "malt.go:273" #[Edge.mk 1 Ground.data, Edge.mk 2 Ground.data] none, Oper.mk (some 49) (Op.move (Operand.tmp 48)) 4 "malt.go:273" #[Edge.mk 3 Ground.data] none, Oper.mk (some 50) (Op.fieldAddr 98 (Operand.tmp 14) 2) 0 "malt.go:273" #[Edge.mk 4 Ground.guard] (some (4, false)), Oper.mk (some 51) (Op.load 3 (Operand.tmp 50)) 3 "malt.go:273" #[Edge.mk 5 Ground.data, Edge.mk 4 Ground.guard] (some (4, false)), Oper.mk (some 52) (Op.load 3 (Operand.tmp 6)) 3 "malt.go:273" #[Edge.mk 4 Ground.guard] (some (4, false)), Oper.mk (some 53) (Op.binOp BinOp.lss 3 (Operand.tmp 51) (Operand.tmp 52) 3) 4 "malt.go:273" #[Edge.mk 6 Ground.data, Edge.mk 7 Ground.data, Edge.mk 4 Ground.guard] (some (4, false)), Oper.mk (some 54) (Op.pick (Operand.tmp 49) (Operand.const (Value.bool true)) (Operand.tmp 53)) 4 "malt.go:273" #[Edge.mk 4 Ground.data, Edge.mk 8 Ground.data] none, Oper.mk (some 55) (Op.move (Operand.tmp 54)) 4 "malt.go:273" #[Edge.mk 9 Ground.data, Edge.mk 4 Ground.chain] none, Oper.mk (some 56) (Op.fieldAddr 98 (Operand.tmp 14) 3) 0 "malt.go:273" #[Edge.mk 10 Ground.guard] (some (10, false)), Oper.mk (some 57) (Op.load 3 (Operand.tmp 56)) 3 "malt.go:273" #[Edge.mk 11 Ground.data, Edge.mk 10 Ground.guard] (some (10, false)), Oper.mk (some 58) (Op.load 3 (Operand.tmp 7)) 3 "malt.go:273" #[Edge.mk 10 Ground.guard] (some (10, false)), Oper.mk (some 59) (Op.fieldAddr 98 (Operand.tmp 14) 2) 0 "malt.go:273" #[Edge.mk 10 Ground.guard] (some (10, false)), Oper.mk (some 60) (Op.load 3 (Operand.tmp 59)) 3 "malt.go:273" #[Edge.mk 14 Ground.data, Edge.mk 10 Ground.guard] (some (10, false)), Oper.mk (some 61) (Op.binOp BinOp.mul 3 (Operand.tmp 58) (Operand.tmp 60) 3) 3 "malt.go:273" #[Edge.mk 13 Ground.data, Edge.mk 15 Ground.data, Edge.mk 10 Ground.guard] (some (10, false)), Oper.mk (some 62) (Op.binOp BinOp.gtr 3 (Operand.tmp 57) (Operand.tmp 61) 3) 4 "malt.go:273" #[Edge.mk 12 Ground.data, Edge.mk 16 Ground.data, Edge.mk 10 Ground.guard] (some (10, false)), Oper.mk (some 63) (Op.pick (Operand.tmp 55) (Operand.const (Value.bool true)) (Operand.tmp 62)) 4 "malt.go:273" #[Edge.mk 10 Ground.data, Edge.mk 17 Ground.data] none] false).seq (Code.cond (Operand.tmp 63) (Code.exit 2) Code.skip)).seq ((Code.region 11 #[Oper.mk (some 64) (Op.load 93 (Operand.tmp 12)) 93 "malt.go:276" #[] none, Oper.mk (some 65) (Op.binOp BinOp.eql 93 (Operand.tmp 64) (Operand.const (Value.pointer none)) 93) 4 "malt.go:276" #[Edge.mk 0 Ground.data] none, Oper.mk (some 66) (Op.move (Operand.tmp 65)) 4 "malt.go:276" #[Edge.mk 1 Ground.data] none, Oper.mk (some 67) (Op.fieldAddr 98 (Operand.tmp 14) 1) 0 "malt.go:276" #[Edge.mk 2 Ground.guard] (some (2, false)), Oper.mk (some 68) (Op.load 3 (Operand.tmp 67)) 3 "malt.go:276" #[Edge.mk 3 Ground.data, Edge.mk 2 Ground.guard] (some (2, false)), Oper.mk (some 69) (Op.load 93 (Operand.tmp 12)) 93 "malt.go:276" #[Edge.mk 2 Ground.guard] (some (2, false)), Oper.mk (some 70) (Op.nilCheck (Operand.tmp 69)) 0 "malt.go:276" #[Edge.mk 5 Ground.data, Edge.mk 2 Ground.guard] (some (2, false)), Oper.mk (some 71) (Op.fieldAddr 98 (Operand.tmp 70) 1) 0 "malt.go:276" #[Edge.mk 6 Ground.data, Edge.mk 2 Ground.guard] (some (2, false)), Oper.mk (some 72) (Op.load 3 (Operand.tmp 71)) 3 "malt.go:276" #[Edge.mk 7 Ground.data, Edge.mk 2 Ground.guard] (some (2, false)), Oper.mk (some 73) (Op.binOp BinOp.lss 3 (Operand.tmp 68) (Operand.tmp 72) 3) 4 "malt.go:276" #[Edge.mk 4 Ground.data, Edge.mk 8 Ground.data, Edge.mk 2 Ground.guard] (some (2, false)), Oper.mk (some 74) (Op.pick (Operand.tmp 66) (Operand.const (Value.bool true)) (Operand.tmp 73)) 4 "malt.go:276" #[Edge.mk 2 Ground.data, Edge.mk 9 Ground.data] none, Oper.mk (some 75) (Op.move (Operand.tmp 74)) 4 "malt.go:276" #[Edge.mk 10 Ground.data, Edge.mk 2 Ground.chain] none, Oper.mk (some 76) (Op.fieldAddr 98 (Operand.tmp 14) 1) 0 "malt.go:276" #[Edge.mk 11 Ground.guard] (some (11, false)), Oper.mk (some 77) (Op.load 3 (Operand.tmp 76)) 3 "malt.go:276" #[Edge.mk 12 Ground.data, Edge.mk 11 Ground.guard] (some (11, false)), Oper.mk (some 78) (Op.load 93 (Operand.tmp 12)) 93 "malt.go:276" #[Edge.mk 11 Ground.guard] (some (11, false)), Oper.mk (some 79) (Op.nilCheck (Operand.tmp 78)) 0 "malt.go:276" #[Edge.mk 14 Ground.data, Edge.mk 11 Ground.guard] (some (11, false)), Oper.mk (some 80) (Op.fieldAddr 98 (Operand.tmp 79) 1) 0 "malt.go:276" #[Edge.mk 15 Ground.data, Edge.mk 11 Ground.guard] (some (11, false)), Oper.mk (some 81) (Op.load 3 (Operand.tmp 80)) 3 "malt.go:276" #[Edge.mk 16 Ground.data, Edge.mk 11 Ground.guard] (some (11, false)), Oper.mk (some 82) (Op.binOp BinOp.eql 3 (Operand.tmp 77) (Operand.tmp 81) 3) 4 "malt.go:276" #[Edge.mk 13 Ground.data, Edge.mk 17 Ground.data, Edge.mk 11 Ground.guard] (some (11, false)), Oper.mk (some 83) (Op.move (Operand.tmp 82)) 4 "malt.go:276" #[Edge.mk 18 Ground.data, Edge.mk 11 Ground.chain, Edge.mk 11 Ground.guard] (some (11, false)), Oper.mk (some 84) (Op.fieldAddr 98 (Operand.tmp 14) 0) 0 "malt.go:276" #[Edge.mk 19 Ground.guard] (some (19, true)), Oper.mk (some 85) (Op.load 60 (Operand.tmp 84)) 60 "malt.go:276" #[Edge.mk 20 Ground.data, Edge.mk 19 Ground.guard] (some (19, true)), Oper.mk (some 86) (Op.call (Call.mk (Callee.builtin Builtin.len) #[Operand.tmp 85] #[60])) 3 "malt.go:276" #[Edge.mk 21 Ground.data, Edge.mk 19 Ground.guard] (some (19, true)), Oper.mk (some 87) (Op.load 93 (Operand.tmp 12)) 93 "malt.go:276" #[Edge.mk 19 Ground.guard] (some (19, true)), Oper.mk (some 88) (Op.nilCheck (Operand.tmp 87)) 0 "malt.go:276" #[Edge.mk 23 Ground.data, Edge.mk 19 Ground.guard] (some (19, true)), Oper.mk (some 89) (Op.fieldAddr 98 (Operand.tmp 88) 0) 0 "malt.go:276" #[Edge.mk 24 Ground.data, Edge.mk 19 Ground.guard] (some (19, true)), Oper.mk (some 90) (Op.load 60 (Operand.tmp 89)) 60 "malt.go:276" #[Edge.mk 25 Ground.data, Edge.mk 19 Ground.guard] (some (19, true)), Oper.mk (some 91) (Op.call (Call.mk (Callee.builtin Builtin.len) #[Operand.tmp 90] #[60])) 3 "malt.go:276" #[Edge.mk 26 Ground.data, Edge.mk 19 Ground.guard] (some (19, true)), Oper.mk (some 92) (Op.binOp BinOp.lss 3 (Operand.tmp 86) (Operand.tmp 91) 3) 4 "malt.go:276" #[Edge.mk 22 Ground.data, Edge.mk 27 Ground.data, Edge.mk 19 Ground.guard] (some (19, true)), Oper.mk (some 93) (Op.move (Operand.tmp 92)) 4 "malt.go:276" #[Edge.mk 28 Ground.data, Edge.mk 19 Ground.chain, Edge.mk 19 Ground.guard] (some (19, true)), Oper.mk (some 94) (Op.fieldAddr 98 (Operand.tmp 14) 0) 0 "malt.go:276" #[Edge.mk 29 Ground.guard] (some (29, false)), Oper.mk (some 95) (Op.load 60 (Operand.tmp 94)) 60 "malt.go:276" #[Edge.mk 30 Ground.data, Edge.mk 29 Ground.guard] (some (29, false)), Oper.mk (some 96) (Op.call (Call.mk (Callee.builtin Builtin.len) #[Operand.tmp 95] #[60])) 3 "malt.go:276" #[Edge.mk 31 Ground.data, Edge.mk 29 Ground.guard] (some (29, false)), Oper.mk (some 97) (Op.load 93 (Operand.tmp 12)) 93 "malt.go:276" #[Edge.mk 29 Ground.guard] (some (29, false)), Oper.mk (some 98) (Op.nilCheck (Operand.tmp 97)) 0 "malt.go:276" #[Edge.mk 33 Ground.data, Edge.mk 29 Ground.guard] (some (29, false)), Oper.mk (some 99) (Op.fieldAddr 98 (Operand.tmp 98) 0) 0 "malt.go:276" #[Edge.mk 34 Ground.data, Edge.mk 29 Ground.guard] (some (29, false)), Oper.mk (some 100) (Op.load 60 (Operand.tmp 99)) 60 "malt.go:276" #[Edge.mk 35 Ground.data, Edge.mk 29 Ground.guard] (some (29, false)), Oper.mk (some 101) (Op.call (Call.mk (Callee.builtin Builtin.len) #[Operand.tmp 100] #[60])) 3 "malt.go:276" #[Edge.mk 36 Ground.data, Edge.mk 29 Ground.guard] (some (29, false)), Oper.mk (some 102) (Op.binOp BinOp.eql 3 (Operand.tmp 96) (Operand.tmp 101) 3) 4 "malt.go:276" #[Edge.mk 32 Ground.data, Edge.mk 37 Ground.data, Edge.mk 29 Ground.guard] (some (29, false)), Oper.mk (some 103) (Op.move (Operand.tmp 102)) 4 "malt.go:276" #[Edge.mk 38 Ground.data, Edge.mk 29 Ground.chain, Edge.mk 29 Ground.guard] (some (29, false)), Oper.mk (some 104) (Op.fieldAddr 98 (Operand.tmp 14) 0) 0 "malt.go:276" #[Edge.mk 39 Ground.guard] (some (39, true)), Oper.mk (some 105) (Op.load 60 (Operand.tmp 104)) 60 "malt.go:276" #[Edge.mk 40 Ground.data, Edge.mk 39 Ground.guard] (some (39, true)), Oper.mk (some 106) (Op.load 93 (Operand.tmp 12)) 93 "malt.go:276" #[Edge.mk 39 Ground.guard] (some (39, true)), Oper.mk (some 107) (Op.nilCheck (Operand.tmp 106)) 0 "malt.go:276" #[Edge.mk 42 Ground.data, Edge.mk 39 Ground.guard] (some (39, true)), Oper.mk (some 108) (Op.fieldAddr 98 (Operand.tmp 107) 0) 0 "malt.go:276" #[Edge.mk 43 Ground.data, Edge.mk 39 Ground.guard] (some (39, true)), Oper.mk (some 109) (Op.load 60 (Operand.tmp 108)) 60 "malt.go:276" #[Edge.mk 44 Ground.data, Edge.mk 39 Ground.guard] (some (39, true)), Oper.mk (some 110) (Op.call (Call.mk (Callee.value (Operand.func 54)) #[Operand.tmp 105, Operand.tmp 109] #[60, 60])) 3 "malt.go:276" #[Edge.mk 41 Ground.data, Edge.mk 45 Ground.data, Edge.mk 39 Ground.chain, Edge.mk 39 Ground.guard] (some (39, true)), Oper.mk (some 111) (Op.binOp BinOp.lss 3 (Operand.tmp 110) (Operand.const (Value.int IntKind.i64 (0 : Int))) 3) 4 "malt.go:276" #[Edge.mk 46 Ground.data, Edge.mk 39 Ground.guard] (some (39, true)), Oper.mk (some 112) (Op.pick (Operand.tmp 103) (Operand.tmp 111) (Operand.const (Value.bool false))) 4 "malt.go:276" #[Edge.mk 39 Ground.data, Edge.mk 47 Ground.data, Edge.mk 29 Ground.guard] (some (29, false)), Oper.mk (some 113) (Op.pick (Operand.tmp 93) (Operand.const (Value.bool true)) (Operand.tmp 112)) 4 "malt.go:276" #[Edge.mk 29 Ground.data, Edge.mk 48 Ground.data, Edge.mk 19 Ground.guard] (some (19, true)), Oper.mk (some 114) (Op.pick (Operand.tmp 83) (Operand.tmp 113) (Operand.const (Value.bool false))) 4 "malt.go:276" #[Edge.mk 19 Ground.data, Edge.mk 49 Ground.data, Edge.mk 11 Ground.guard] (some (11, false)), Oper.mk (some 115) (Op.pick (Operand.tmp 75) (Operand.const (Value.bool true)) (Operand.tmp 114)) 4 "malt.go:276" #[Edge.mk 11 Ground.data, Edge.mk 50 Ground.data] none] true).seq (Code.cond (Operand.tmp 115) (Code.region 12 #[Oper.mk none (Op.store 93 (Operand.tmp 12) (Operand.tmp 14)) 0 "malt.go:277" #[] none] false) Code.skip)))))), (5, VB.cells [I (↑l.length : Int)] 3), (4, VB.cells [VV.nilp] 93), (3, VB.cells [I nit] 3), (2, VB.cells [I need] 3), (1, VB.cells [I day] 3), (0, VB.cells [VV.tl l.length 6 (byG l)] 59)]) [(6, I 0), (5, I ((1 : Int) * (2 : Int) ^ min (↑l.length : Int).toNat IntKind.i64.bits)), (4, I (↑l.length : Int)), (0, VV.yld (6)), (1, VV.ptr (VA.own (5) 0))] (VH.mk 7 (nsG.zip (BG l day need nit w VV.nilp))) (dsG.zip (VG l (0 : Int))) ∧ (l.all okBy = true ∧ l.length ≤ 12 ∧ (0 : Int) ≤ nit ∧ nit ≤ (10000 : Int)) ∧ (bestG l day need nit (2 ^ l.length) = none → Q (VRes.ret (VV.tup [VV.nils, I 0, I 4]))) ∧ ∀ (y : Sk), bestG l day need nit (2 ^ l.length) = some y → Q (VRes.ret (VV.tup [VV.tl y.L.length 1 (dG y.L), I y.p, I 0]))
 else False
 else Q (VRes.ret (VV.tup [VV.nils, I 0, I 2]))
 else Q (VRes.ret (VV.tup [VV.nils, I 0, I 2]))
 else Q (VRes.ret (VV.tup [VV.nils, I 0, I 2]))) := by kernel_rfl


end Go.Sx.Grs

/- malt: Grist. -/

namespace Go.Sx.Grs
open Go Go.Sx Go.Proofs
set_option maxRecDepth 1000000

theorem cond_s {b : Bool} {p : Prop} (h : p) : (bif b then p else p) := by cases b <;> exact h
def bV : Option Sk → VV
  | none => .nilp
  | some x => skT x

theorem fc_tab : ∀ f T, tabS [fillT, cmpT] f = some T → SpOk Try.prog f T := tab_ok _ (fun x hx => by
  simp only [List.mem_cons, List.not_mem_nil, or_false] at hx
  rcases hx with rfl | rfl
  · exact fillT_ok
  · exact cmpT_ok)
theorem fc_good : Good Try.prog (callN Try.prog (tabS [fillT, cmpT]) noL 10 20) := callN_good hmix fc_tab (fun _ _ _ _ _ _ _ h => by cases h) 20

theorem nG_v {l : List By} (h : l.length ≤ 12) : nG l = ((2 ^ l.length : Nat) : Int) := by
  unfold nG
  rw [Int.toNat_natCast, show IntKind.i64.bits = 64 from rfl, Nat.min_eq_left (by omega), Int.one_mul]
  push_cast
  rfl

theorem isT_self {h : VH} {l : List By} : isT h (.tl l.length 6 (byG l)) (byD l) := ⟨rfl, rfl, fun _ _ => rfl⟩

section
variable {l : List By} {day need nit : Int} {w : Bool}

theorem bestG_mem : ∀ {k : Nat} {y : Sk}, bestG l day need nit k = some y → ∃ i, i < k ∧ y = fillF l i l.length
  | 0, _, h => by cases h
  | k + 1, y, h => by
    unfold bestG stepG at h
    split at h
    · split at h
      · cases h
        exact ⟨k, by omega, rfl⟩
      · rename_i z hz
        split at h
        · cases h
          exact ⟨k, by omega, rfl⟩
        · cases h
          obtain ⟨i, hi, e⟩ := bestG_mem hz
          exact ⟨i, by omega, e⟩
    · obtain ⟨i, hi, e⟩ := bestG_mem h
      exact ⟨i, by omega, e⟩

theorem bestG_s (k : Nat) : bestG l day need nit (k + 1) = stepG day need nit (bestG l day need nit k) (fillF l k l.length) := rfl

noncomputable def OG (l : List By) (day need nit : Int) (w : Bool) (_ : Nat) (e : VEx) (vs : List VV) (bs : List VB) : Prop :=
  e = .exit 0 ∧ vs = VG l (nG l) ∧ bs = BG l day need nit w (bV (bestG l day need nit (2 ^ l.length)))

theorem lG_ok : LSound Try.prog true (.block 0 (.loop (loopB 0 (bodyOf Try.prog 61)))) 14 (lG l day need nit w) := by
  by_cases hn : l.all okBy = true ∧ l.length ≤ 12 ∧ 0 ≤ nit ∧ nit ≤ 10000
  · obtain ⟨hl, hn, hn1, hn2⟩ := hn
    have hN := nG_v hn
    have hN2 : 2 ^ l.length ≤ 4096 := Nat.pow_le_pow_right (n := 2) (by omega) hn
    refine loop_rowZ hmix fc_good (un := 10) (zs := [(8, 0), (4, 0)]) (ds := dsG) (ns := nsG) (nx := 7) (fun k : Nat => VG l k) (fun k => BG l day need nit w (bV (bestG l day need nit k))) (fun k => k ≤ 2 ^ l.length) (fun k => 2 ^ l.length - k) (OG l day need nit w) (fun _ _ => noL_ok) ?_ ?_
    · rintro k hk
      skip
      have hs := bestG_s (l := l) (day := day) (need := need) (nit := nit) k
      obtain ⟨b1, ⟨b2, b3⟩, ⟨b4, b5⟩, ⟨b6, b7⟩, ⟨b8, b9⟩⟩ := fillF_bd (s := k) hl l.length (Nat.le_refl _)
      generalize hx : fillF l k l.length = x at hs b1 b2 b3 b4 b5 b6 b7 b8 b9
      have hmul : 0 ≤ nit * x.w ∧ nit * x.w ≤ 10000 * 2000000000000 := ⟨Int.mul_nonneg hn1 b4, by
        calc nit * x.w ≤ 10000 * x.w := Int.mul_le_mul_of_nonneg_right hn2 b4
          _ ≤ 10000 * 2000000000000 := Int.mul_le_mul_of_nonneg_left (by omega) (by omega)⟩
      have fin : ∀ (k' : Nat) (b' : Option Sk), k' = k + 1 → k < 2 ^ l.length → bestG l day need nit (k + 1) = b' → RoundQ (fun k : Nat => VG l k) (fun k => BG l day need nit w (bV (bestG l day need nit k))) (fun k => k ≤ 2 ^ l.length) (fun k => 2 ^ l.length - k) (OG l day need nit w) k .normal (VG l (k + 1)) (BG l day need nit w (bV b')) := by
        rintro k' b' rfl hlt rfl
        exact ⟨k + 1, by omega, by dsimp only; omega, rfl, fitBs_refl _, fun _ _ _ h => h⟩
      cases hb : bestG l day need nit k with
      | none =>
        rw [hb] at hs
        refine cast (r0_ev l day need nit w k _).symm ?_
        by_cases hlt : k < 2 ^ l.length
        · refine cond_dk (by omega) ⟨l, k, isT_self, rfl, hl, by omega, ?_⟩
          rw [hx]
          rintro x' rfl
          refine cond_d (fun h => cond_r (by omega) (cond_s (fin _ none rfl hlt ?_))) (fun h1 => cond_d (fun h => cond_r (by omega) (cond_s (fin _ none rfl hlt ?_))) (fun h2 => cond_r (by omega) (cond_d (fun h => cond_r (by omega) (cond_s (fin _ none rfl hlt ?_))) (fun h3 => cond_r (by omega) (cond_k (by simp; decide) (fin _ (some x') rfl hlt ?_))))))
          · rw [hs]; unfold stepG fitS; rw [decide_eq_true h]; rfl
          · rw [hs]; unfold stepG fitS; rw [decide_eq_true h]; simp
          · rw [hs]; unfold stepG fitS; rw [decide_eq_true h]; simp
          · rw [hs]; unfold stepG fitS; rw [decide_eq_false h1, decide_eq_false h2, decide_eq_false h3]; rfl
        · obtain rfl : k = 2 ^ l.length := by omega
          refine cond_d (fun h => by omega) (fun _ => ⟨rfl, ?_, ?_⟩)
          · show VG l ((2 ^ l.length : Nat) : Int) = VG l (nG l)
            rw [hN]
          · rw [hb]; rfl
      | some y =>
        rw [hb] at hs
        refine cast (r1_ev l day need nit w k y _).symm ?_
        obtain ⟨i0, _, hy⟩ := bestG_mem hb
        obtain ⟨c1, _⟩ := fillF_bd (s := i0) hl l.length (Nat.le_refl _)
        rw [← hy] at c1
        by_cases hlt : k < 2 ^ l.length
        · refine cond_dk (by omega) ⟨l, k, isT_self, rfl, hl, by omega, ?_⟩
          rw [hx]
          rintro x' rfl
          have nb : fitS day need nit x' = true → better x' y = false → bestG l day need nit (k + 1) = some y := fun h1 h2 => by
            rw [hs]; unfold stepG; rw [if_pos h1]; dsimp only; rw [if_neg (by rw [h2]; simp)]
          have yb : fitS day need nit x' = true → better x' y = true → bestG l day need nit (k + 1) = some x' := fun h1 h2 => by
            rw [hs]; unfold stepG; rw [if_pos h1]; dsimp only; rw [if_pos h2]
          refine cond_d (fun h => cond_r (by omega) (cond_s (fin _ (some y) rfl hlt ?_))) (fun h1 => cond_d (fun h => cond_r (by omega) (cond_s (fin _ (some y) rfl hlt ?_))) (fun h2 => cond_r (by omega) (cond_d (fun h => cond_r (by omega) (cond_s (fin _ (some y) rfl hlt ?_))) (fun h3 => ?_))))
          · rw [hs]; unfold stepG fitS; rw [decide_eq_true h]; rfl
          · rw [hs]; unfold stepG fitS; rw [decide_eq_true h]; simp
          · rw [hs]; unfold stepG fitS; rw [decide_eq_true h]; simp
          have hf : fitS day need nit x' = true := by unfold fitS; rw [decide_eq_false h1, decide_eq_false h2, decide_eq_false h3]; rfl
          refine cond_d (fun g1 => cond_r (by omega) (cond_k (by simp; decide) (fin _ (some x') rfl hlt (yb hf (decide_eq_true (.inl g1)))))) (fun g1 => cond_d (fun g2 => cond_d (fun g3 => cond_r (by omega) (cond_k (by simp; decide) (fin _ (some x') rfl hlt (yb hf (decide_eq_true (.inr ⟨g2, .inl (by omega)⟩)))))) (fun g3 => cond_d (fun g4 => ⟨x'.L, y.L, ⟨rfl, Nat.le_refl _, _, _, rfl, fun _ _ => rfl⟩, ⟨rfl, rfl, fun _ _ => rfl⟩, by omega, by omega, ?_⟩) (fun g4 => cond_r (by omega) (cond_s (fin _ (some y) rfl hlt (nb hf (decide_eq_false (by omega)))))))) (fun g2 => cond_r (by omega) (cond_s (fin _ (some y) rfl hlt (nb hf (decide_eq_false (by omega)))))))
          refine cond_d (fun g5 => cond_r (by omega) (cond_k (by simp; decide) (fin _ (some x') rfl hlt (yb hf (decide_eq_true (.inr ⟨g2, .inr ⟨by omega, g5⟩⟩)))))) (fun g5 => cond_r (by omega) (cond_s (fin _ (some y) rfl hlt (nb hf (decide_eq_false (by omega))))))
        · obtain rfl : k = 2 ^ l.length := by omega
          refine cond_d (fun h => by omega) (fun _ => ⟨rfl, ?_, ?_⟩)
          · show VG l ((2 ^ l.length : Nat) : Int) = VG l (nG l)
            rw [hN]
          · rw [hb]; rfl
    · rintro lock t h K ⟨hf, _, k1, k2⟩
      refine ⟨0, hf, Nat.zero_le _, ?_⟩
      rintro e vs bs ⟨rfl, rfl, rfl⟩
      cases hb : bestG l day need nit (2 ^ l.length) with
      | none => exact k1 hb
      | some y => exact k2 y hb
  · rintro lock t h K ⟨hf, hc, _⟩
    exact (hn hc).elim

theorem lG_all : LoopsOk Try.prog 61 [(0, lG l day need nit w)] := fun x hx => by
  simp only [List.mem_singleton] at hx
  subst hx
  exact ⟨by kernel_rfl, lG_ok⟩
end

/-- What Grist answers. -/
def gristR (l : List By) (day need nit : Int) : VRes :=
  if ¬ l.length ≤ 12 ∨ l.all okBy = false then .ret (.tup [.nils, I 0, I 1])
  else if ¬ ((0 ≤ day ∧ day ≤ 65536) ∧ (0 ≤ need ∧ need ≤ 1099511627776) ∧ 0 ≤ nit ∧ nit ≤ 10000) then .ret (.tup [.nils, I 0, I 2])
  else match bestG l day need nit (2 ^ l.length) with
    | none => .ret (.tup [.nils, I 0, I 4])
    | some x => .ret (.tup [inD x.L, I x.p, I 0])
theorem c_tab : ∀ f T, tabS [contT] f = some T → SpOk Try.prog f T := tab_ok _ (fun x hx => by
  simp only [List.mem_singleton] at hx
  subst hx
  exact contT_ok)

theorem isT_byD {h : VH} {l : List By} : isT h (.tl l.length 6 (byG l)) (byD l) := ⟨rfl, rfl, fun _ _ => rfl⟩
theorem grist_v (l : List By) (day need nit : Int) : ∃ h', CallsV Try.prog 28 [byD l, I day, I need, I nit] ⟨0, []⟩ (gristR l day need nit) h' := by
  obtain ⟨r, h', rfl, hc⟩ := of_callN (callL_good hmix c_tab (lG_all (l := l) (day := day) (need := need) (nit := nit) (w := l.all okBy)) (un := 10) 20) (f := 28) (args := [byD l, I day, I need, I nit]) (h := ⟨0, []⟩) (K := fun r _ => r = gristR l day need nit) (by
    refine cast (g_ev l day need nit (l.all okBy) _).symm ?_
    unfold gristR
    refine cond_d (fun h => ?_) (fun h1 => ⟨l, isT_byD, by omega, cond_i (fun h => ?_) (fun h2 => ?_)⟩)
    · rw [if_pos (.inl (by omega))]
    · rw [if_pos (.inr (by simpa using h))]
    have h2 : l.all okBy = true := by simpa using h2
    rw [if_neg (by rw [h2]; simp; omega)]
    refine cond_d (fun g1 => cond_nd (fun g2 => ?_) (fun g2 => cond_d (fun g3 => cond_nd (fun g4 => ?_) (fun g4 => cond_d (fun g5 => cond_nd (fun g6 => ?_) (fun g6 => ?_)) (fun g5 => ?_))) (fun g3 => ?_))) (fun g1 => ?_)
    · rw [if_pos (by omega)]
    · rw [if_pos (by omega)]
    · rw [if_pos (by omega)]
    · rw [if_neg (by omega)]
      have hN := nG_v (l := l) (by omega)
      have hN2 : 2 ^ l.length ≤ 4096 := Nat.pow_le_pow_right (n := 2) (by omega) (show l.length ≤ 12 by omega)
      have hq : ∀ q : Nat, q ≤ 4096 → (-9223372036854775808 ≤ (q : Int) ∧ (q : Int) ≤ 9223372036854775807) := fun q h => by omega
      refine cond_r (by show _ ≤ nG l ∧ nG l ≤ _; rw [hN]; exact hq _ hN2) ⟨fitP_self rfl, ⟨h2, by omega, g5, g6⟩, fun hb => ?_, fun y hb => ?_⟩
      · rw [hb]
      · rw [hb]; rfl
    · rw [if_pos (by omega)]
    · rw [if_pos (by omega)]
    · rw [if_pos (by omega)])
  exact ⟨h', hc⟩
end Go.Sx.Grs

/- malt: the document's lots and choices, evaluated. -/

namespace Go.Sx.Grs
open Go Go.Sx Go.Proofs
set_option maxRecDepth 1000000

def dsL : List Nat := [3, 2, 0]
def VL (l : List By) (i : Int) : List VV := [I i, .bool false, byD l]
theorem lo_ev (l : List By) (i : Int) (X : VEx → List VV → List VB → Prop) : codeE Try.prog (callN Try.prog noSpec noL 10 20) (fun _ => none) true 10 47 0 (loopB 0 (bodyOf Try.prog 31)) (dsL.zip (VL l i)) ⟨0, ([] : List Nat).zip []⟩ (obs 0 dsL [] X) =
  (bif decide (i < (↑l.length : Int)) then
 bif decide ((0 : Int) ≤ i ∧ i < (↑l.length : Int)) then
 bif decide ((l.getD i.toNat b0).wl ≥ (0 : Int)) then
 bif decide ((l.getD i.toNat b0).wl ≤ (l.getD i.toNat b0).wh) then
 bif !decide ((l.getD i.toNat b0).wh ≤ (91625968981 : Int)) then
 X VEx.ret [I i, VV.bool false, VV.tl l.length 6 (byG l)] []
 else bif decide ((0 : Int) ≤ i ∧ i < (↑l.length : Int)) then
 bif decide ((l.getD i.toNat b0).nl ≥ (0 : Int)) then
 bif decide ((l.getD i.toNat b0).nl ≤ (l.getD i.toNat b0).nh) then
 bif !decide ((l.getD i.toNat b0).nh ≤ (10000 : Int)) then
 X VEx.ret [I i, VV.bool false, VV.tl l.length 6 (byG l)] []
 else bif decide ((0 : Int) ≤ i ∧ i < (↑l.length : Int)) then
 bif decide ((l.getD i.toNat b0).r ≥ (0 : Int)) then
 bif !decide ((l.getD i.toNat b0).r ≤ (65536 : Int)) then
 X VEx.ret [I i, VV.bool false, VV.tl l.length 6 (byG l)] []
 else bif decide ((0 : Int) ≤ i ∧ i < (↑l.length : Int)) then
 bif decide ((l.getD i.toNat b0).p ≥ (0 : Int)) then
 bif !decide ((l.getD i.toNat b0).p ≤ (1073741824 : Int)) then
 X VEx.ret [I i, VV.bool false, VV.tl l.length 6 (byG l)] []
 else bif inK IntKind.i64 (i + (1 : Int)) then
 X VEx.normal [I (i + (1 : Int)), VV.bool false, VV.tl l.length 6 (byG l)] []
 else False
 else X VEx.ret [I i, VV.bool false, VV.tl l.length 6 (byG l)] []
 else False
 else X VEx.ret [I i, VV.bool false, VV.tl l.length 6 (byG l)] []
 else False
 else X VEx.ret [I i, VV.bool false, VV.tl l.length 6 (byG l)] []
 else X VEx.ret [I i, VV.bool false, VV.tl l.length 6 (byG l)] []
 else False
 else X VEx.ret [I i, VV.bool false, VV.tl l.length 6 (byG l)] []
 else X VEx.ret [I i, VV.bool false, VV.tl l.length 6 (byG l)] []
 else False
 else X (VEx.exit 0) [I i, VV.bool false, VV.tl l.length 6 (byG l)] []) := by kernel_rfl

def dsH : List Nat := [16, 15, 14, 13, 12, 11, 10, 0, 1, 2, 3, 4]
def VH2 (l : List By) (D : List Int) (day need nit i : Int) (b : Bool) (r w p : Int) : List VV := [I i, .bool b, I r, I w, I p, .bool false, I 0, byD l, inD D, I day, I need, I nit]
theorem ch_ev (l : List By) (D : List Int) (day need nit i : Int) (b : Bool) (r w p : Int) (X : VEx → List VV → List VB → Prop) : codeE Try.prog (callN Try.prog noSpec noL 10 20) (fun _ => none) true 10 70 0 (loopB 0 (bodyOf Try.prog 32)) (dsH.zip (VH2 l D day need nit i b r w p)) ⟨0, ([] : List Nat).zip []⟩ (obs 0 dsH [] X) =
  (bif decide (i < (↑D.length : Int)) then
 bif decide ((0 : Int) ≤ i ∧ i < (↑D.length : Int)) then
 bif decide ((0 : Int) ≤ D.getD i.toNat (0 : Int) ∧ D.getD i.toNat (0 : Int) < (↑l.length : Int)) then
 bif inK IntKind.i64 (p + (l.getD (D.getD i.toNat (0 : Int)).toNat b0).p) then
 bif inK IntKind.i64 (w + (l.getD (D.getD i.toNat (0 : Int)).toNat b0).wl) then
 bif inK IntKind.i64 ((l.getD (D.getD i.toNat (0 : Int)).toNat b0).wh * (l.getD (D.getD i.toNat (0 : Int)).toNat b0).nh) then
 bif inK IntKind.i64 (r + (l.getD (D.getD i.toNat (0 : Int)).toNat b0).wh * (l.getD (D.getD i.toNat (0 : Int)).toNat b0).nh) then
 bif b then
 bif inK IntKind.i64 (i + (1 : Int)) then
 X VEx.normal [I (i + (1 : Int)), VV.bool (decide ((l.getD (D.getD i.toNat (0 : Int)).toNat b0).r ≤ day)), I (r + (l.getD (D.getD i.toNat (0 : Int)).toNat b0).wh * (l.getD (D.getD i.toNat (0 : Int)).toNat b0).nh), I (w + (l.getD (D.getD i.toNat (0 : Int)).toNat b0).wl), I (p + (l.getD (D.getD i.toNat (0 : Int)).toNat b0).p), VV.bool false, I 0, VV.tl l.length 6 (byG l), VV.tl D.length 1 (dG D), I day, I need, I nit] []
 else False
 else bif inK IntKind.i64 (i + (1 : Int)) then
 X VEx.normal [I (i + (1 : Int)), VV.bool false, I (r + (l.getD (D.getD i.toNat (0 : Int)).toNat b0).wh * (l.getD (D.getD i.toNat (0 : Int)).toNat b0).nh), I (w + (l.getD (D.getD i.toNat (0 : Int)).toNat b0).wl), I (p + (l.getD (D.getD i.toNat (0 : Int)).toNat b0).p), VV.bool false, I 0, VV.tl l.length 6 (byG l), VV.tl D.length 1 (dG D), I day, I need, I nit] []
 else False
 else False
 else False
 else False
 else False
 else False
 else False
 else X (VEx.exit 0) [I i, VV.bool b, I r, I w, I p, VV.bool false, I 0, VV.tl l.length 6 (byG l), VV.tl D.length 1 (dG D), I day, I need, I nit] []) := by kernel_rfl

/-- What a set of lots comes to. -/
def chF (l : List By) (D : List Int) : Nat → Sk
  | 0 => ⟨[], 0, 0, 0, 0⟩
  | k + 1 => ⟨[], (chF l D k).p + (l.getD (D.getD k 0).toNat b0).p, (chF l D k).w + (l.getD (D.getD k 0).toNat b0).wl, (chF l D k).r + (l.getD (D.getD k 0).toNat b0).wh * (l.getD (D.getD k 0).toNat b0).nh, max (chF l D k).d (l.getD (D.getD k 0).toNat b0).r⟩
def lLo (l : List By) : LT := fun lock t h K =>
  FitP lock h t ⟨0, ([] : List Nat).zip []⟩ (dsL.zip (VL l 0)) ∧ l.length ≤ 100000 ∧ (l.all okBy = true → K .normal (dsL.zip (VL l l.length)) ⟨0, ([] : List Nat).zip []⟩) ∧ (l.all okBy = false → ∀ i : Nat, K .ret (dsL.zip (VL l i)) ⟨0, ([] : List Nat).zip []⟩)
theorem lof_ev (l : List By) (Q : VRes → Prop) : callN Try.prog noSpec (atF 31 [(0, lLo l)]) 10 20 0 (.fn 31) [byD l] ⟨0, []⟩ (fun r h => Q r) =
  (FitP 0 (VH.mk 0 ([].zip [])) (dsL.zip (VL l (0 : Int))) (VH.mk 0 ([].zip [])) (dsL.zip (VL l (0 : Int))) ∧ l.length ≤ 100000 ∧ (l.all okBy = true → Q (VRes.ret (VV.bool (decide ((↑l.length : Int) ≤ (12 : Int)))))) ∧ (l.all okBy = false → ∀ (i : Nat), Q (VRes.ret (VV.bool false)))) := by kernel_rfl

def dOk (D : List Int) (n : Nat) : Prop := ∀ x ∈ D, 0 ≤ x ∧ x < n
def lCh (l : List By) (D : List Int) (day need nit : Int) : LT := fun lock t h K =>
  FitP lock h t ⟨0, ([] : List Nat).zip []⟩ (dsH.zip (VH2 l D day need nit 0 true 0 0 0)) ∧ (l.all okBy = true ∧ D.length ≤ 40 ∧ dOk D l.length ∧ 0 ≤ day ∧ 0 ≤ nit ∧ nit ≤ 10000) ∧ ∀ x b, x = chF l D D.length → b = decide (x.d ≤ day) → K .normal (dsH.zip (VH2 l D day need nit D.length b x.r x.w x.p)) ⟨0, ([] : List Nat).zip []⟩
theorem chf_ev (l : List By) (D : List Int) (day need nit : Int) (Q : VRes → Prop) : callN Try.prog noSpec (atF 32 [(0, lCh l D day need nit)]) 10 20 0 (.fn 32) [byD l, inD D, I day, I need, I nit] ⟨0, []⟩ (fun r h => Q r) =
  (FitP 0 (VH.mk 0 ([].zip [])) (dsH.zip (VH2 l D day need nit (0 : Int) true (0 : Int) (0 : Int) (0 : Int))) (VH.mk 0 ([].zip [])) (dsH.zip (VH2 l D day need nit (0 : Int) true (0 : Int) (0 : Int) (0 : Int))) ∧ (l.all okBy = true ∧ D.length ≤ 40 ∧ dOk D l.length ∧ (0 : Int) ≤ day ∧ (0 : Int) ≤ nit ∧ nit ≤ (10000 : Int)) ∧ ∀ (x : Sk) (b : Bool), x = chF l D D.length → b = decide (x.d ≤ day) → bif b then
 bif decide (x.w ≥ need) then
 bif inK IntKind.i64 (nit * x.w) then
 Q (VRes.ret (VV.tup [I x.p, VV.bool (decide (x.r ≤ nit * x.w))]))
 else False
 else Q (VRes.ret (VV.tup [I x.p, VV.bool false]))
 else Q (VRes.ret (VV.tup [I x.p, VV.bool false]))) := by kernel_rfl


end Go.Sx.Grs

/- malt: the document's lots and choices. -/

namespace Go.Sx.Grs
open Go Go.Sx Go.Proofs
set_option maxRecDepth 1000000

section
variable {l : List By} {D : List Int} {day need nit : Int}

def OL (l : List By) (_ : Nat) (e : VEx) (vs : List VV) (bs : List VB) : Prop :=
  bs = [] ∧ ((l.all okBy = true ∧ e = .exit 0 ∧ vs = VL l l.length) ∨ (l.all okBy = false ∧ e = .ret ∧ ∃ i : Nat, vs = VL l i))

theorem lLo_ok : LSound Try.prog true (.block 0 (.loop (loopB 0 (bodyOf Try.prog 31)))) 47 (lLo l) := by
  by_cases hn : l.length ≤ 100000
  · refine loop_row hmix good0 (un := 10) (ds := dsL) (ns := []) (nx := 0) (fun i : Nat => VL l i) (fun _ => []) (fun i => i ≤ l.length ∧ ∀ j, j < i → okBy (l.getD j b0) = true) (fun i => l.length - i) (OL l) noL_ok ?_ ?_
    · rintro i ⟨h0, h1⟩
      refine cast (lo_ev l i _).symm ?_
      by_cases hlt : i < l.length
      · have hin : (0 : Int) ≤ i ∧ (i : Int) < l.length := ⟨by omega, by omega⟩
        refine cond_dk (by omega) (cond_dk hin ?_)
        rw [show (i : Int).toNat = i by omega]
        have bad : okBy (l.getD i b0) = false → RoundQ (fun i : Nat => VL l i) (fun _ => []) (fun i => i ≤ l.length ∧ ∀ j, j < i → okBy (l.getD j b0) = true) (fun i => l.length - i) (OL l) i .ret (VL l i) [] := fun h => by
          refine ⟨rfl, .inr ⟨?_, rfl, i, rfl⟩⟩
          rw [List.all_eq_false]
          refine ⟨l.getD i b0, ?_, by rw [h]; simp⟩
          rw [List.getD_eq_getElem?_getD, List.getElem?_eq_getElem hlt]; exact List.getElem_mem _
        refine cond_d (fun g1 => cond_d (fun g2 => cond_nd (fun g3 => bad ?_) (fun g3 => cond_dk hin (cond_d (fun g4 => cond_d (fun g5 => cond_nd (fun g6 => bad ?_) (fun g6 => cond_dk hin (cond_d (fun g7 => cond_nd (fun g8 => bad ?_) (fun g8 => cond_dk hin (cond_d (fun g9 => cond_nd (fun g10 => bad ?_) (fun g10 => cond_r (by omega) ⟨i + 1, ⟨by omega, fun j hj => ?_⟩, by dsimp only; omega, rfl, fitBs_refl _, fun _ _ _ h => h⟩)) (fun g9 => bad ?_)))) (fun g7 => bad ?_)))) (fun g5 => bad ?_)) (fun g4 => bad ?_)))) (fun g2 => bad ?_)) (fun g1 => bad ?_)
        all_goals try (unfold okBy; simp only [Bool.and_eq_false_iff, decide_eq_false_iff_not]; omega)
        by_cases e : j = i
        · subst e
          unfold okBy
          simp only [Bool.and_eq_true, decide_eq_true_eq]
          omega
        · exact h1 j (by omega)
      · obtain rfl : i = l.length := by omega
        refine cond_d (fun h => by omega) (fun _ => ⟨rfl, .inl ⟨?_, rfl, rfl⟩⟩)
        rw [List.all_eq_true]
        intro x hx
        obtain ⟨j, hj, rfl⟩ := List.getElem_of_mem hx
        have := h1 j hj
        rwa [List.getD_eq_getElem?_getD, List.getElem?_eq_getElem hj] at this
    · rintro lock t h K ⟨hf, _, k1, k2⟩
      refine ⟨0, hf, ⟨Nat.zero_le _, fun j hj => by omega⟩, ?_⟩
      rintro e vs bs ⟨rfl, ⟨g, rfl, rfl⟩ | ⟨g, rfl, i, rfl⟩⟩
      · exact k1 g
      · exact k2 g i
  · rintro lock t h K ⟨hf, hc, _⟩
    exact (hn hc).elim

theorem lLo_all : LoopsOk Try.prog 31 [(0, lLo l)] := fun x hx => by
  simp only [List.mem_singleton] at hx
  subst hx
  exact ⟨by kernel_rfl, lLo_ok⟩

theorem lots_v (l : List By) (hn : l.length ≤ 100000) : ∃ h', CallsV Try.prog 31 [byD l] ⟨0, []⟩ (.ret (.bool (l.all okBy && decide (l.length ≤ 12)))) h' := by
  obtain ⟨r, h', rfl, hc⟩ := of_callN (callL_good hmix noSp (lLo_all (l := l)) (un := 10) 20) (f := 31) (args := [byD l]) (h := ⟨0, []⟩) (K := fun r _ => r = .ret (.bool (l.all okBy && decide (l.length ≤ 12)))) (by
    refine cast (lof_ev l _).symm ?_
    refine ⟨fitP_self rfl, hn, fun h => ?_, fun h i => by rw [h]; rfl⟩
    rw [h, Bool.true_and]
    congr 2
    rw [decide_eq_decide]
    omega)
  exact ⟨h', hc⟩

/-- Are lots valid, as a row. -/
def lotsT : FuncId × Spec1 := (31, fun _ args h K => match args with
  | [x] => ∃ l : List By, isT h x (byD l) ∧ l.length ≤ 100000 ∧ K (.ret (.bool (l.all okBy && decide (l.length ≤ 12)))) h
  | _ => False)
theorem lotsT_ok : SpOk Try.prog lotsT.1 lotsT.2 := by
  intro lock args h K hK
  simp only [lotsT] at hK
  split at hK
  · obtain ⟨l, hx, hn, hK⟩ := hK
    obtain ⟨h', hc⟩ := lots_v l hn
    exact ⟨_, h, hK, lockP_refl _ _, calls_lendP hc rfl ⟨hx, trivial⟩⟩
  · exact hK.elim

theorem chF_bd (hl : l.all okBy = true) (hD : dOk D l.length) : ∀ k, k ≤ D.length → skBd k (chF l D k)
  | 0, _ => by simp [skBd, chF]
  | k + 1, h => by
    obtain ⟨h1, ⟨h2, h3⟩, ⟨h4, h5⟩, ⟨h6, h7⟩, ⟨h8, h9⟩⟩ := chF_bd hl hD k (by omega)
    have hk : (D.getD k 0).toNat < l.length := by
      rw [List.getD_eq_getElem?_getD, List.getElem?_eq_getElem (by omega)]
      have := hD _ (List.getElem_mem (show k < D.length by omega))
      simp only [Option.getD_some]
      omega
    obtain ⟨⟨q1, q2, q3⟩, _, ⟨q4, q5⟩, q6, q7⟩ := ok_bd (ok_get hl hk)
    obtain ⟨q8, q9⟩ := ok_rich (ok_get hl hk)
    unfold chF
    refine ⟨?_, ⟨?_, ?_⟩, ⟨?_, ?_⟩, ⟨?_, ?_⟩, ⟨?_, ?_⟩⟩ <;> dsimp only
    · simp
    all_goals omega

def OH (l : List By) (D : List Int) (day need nit : Int) (_ : Nat) (e : VEx) (vs : List VV) (bs : List VB) : Prop :=
  e = .exit 0 ∧ bs = [] ∧ vs = VH2 l D day need nit D.length (decide ((chF l D D.length).d ≤ day)) (chF l D D.length).r (chF l D D.length).w (chF l D D.length).p

theorem lCh_ok : LSound Try.prog true (.block 0 (.loop (loopB 0 (bodyOf Try.prog 32)))) 70 (lCh l D day need nit) := by
  by_cases hn : l.all okBy = true ∧ D.length ≤ 40 ∧ dOk D l.length ∧ 0 ≤ day ∧ 0 ≤ nit ∧ nit ≤ 10000
  · obtain ⟨hl, hn, hD, hd, _⟩ := hn
    refine loop_row hmix good0 (un := 10) (ds := dsH) (ns := []) (nx := 0) (fun k : Nat => VH2 l D day need nit k (decide ((chF l D k).d ≤ day)) (chF l D k).r (chF l D k).w (chF l D k).p) (fun _ => []) (fun k => k ≤ D.length) (fun k => D.length - k) (OH l D day need nit) noL_ok ?_ ?_
    · rintro k h0
      refine cast (ch_ev l D day need nit k _ _ _ _ _).symm ?_
      by_cases hlt : k < D.length
      · have hk : 0 ≤ D.getD k 0 ∧ D.getD k 0 < l.length := by
          rw [List.getD_eq_getElem?_getD, List.getElem?_eq_getElem (by omega)]
          exact hD _ (List.getElem_mem _)
        have hk2 : (D.getD k 0).toNat < l.length := by omega
        obtain ⟨h1, ⟨h2, h3⟩, ⟨h4, h5⟩, ⟨h6, h7⟩, ⟨h8, h9⟩⟩ := chF_bd hl hD k (by omega)
        obtain ⟨⟨q1, q2, q3⟩, _, ⟨q4, q5⟩, q6, q7⟩ := ok_bd (ok_get hl hk2)
        obtain ⟨q8, q9⟩ := ok_rich (ok_get hl hk2)
        refine cond_dk (by omega) (cond_dk ⟨by omega, by omega⟩ ?_)
        rw [show (k : Int).toNat = k by omega]
        have fin : ∀ b', b' = decide ((chF l D (k + 1)).d ≤ day) → RoundQ (fun k : Nat => VH2 l D day need nit k (decide ((chF l D k).d ≤ day)) (chF l D k).r (chF l D k).w (chF l D k).p) (fun _ => []) (fun k => k ≤ D.length) (fun k => D.length - k) (OH l D day need nit) k .normal (VH2 l D day need nit (k + 1) b' (chF l D (k + 1)).r (chF l D (k + 1)).w (chF l D (k + 1)).p) [] := by
          rintro b' rfl
          exact ⟨k + 1, by omega, by dsimp only; omega, rfl, fitBs_refl _, fun _ _ _ h => h⟩
        refine cond_dk hk (cond_r (by omega) (cond_r (by omega) (cond_r (by omega) (cond_r (by omega) (cond_d (fun h => cond_r (by omega) (fin _ ?_)) (fun h => cond_r (by omega) (fin _ ?_)))))))
        · rw [decide_eq_decide]
          show _ ↔ max (chF l D k).d (l.getD (D.getD k 0).toNat b0).r ≤ day
          omega
        · symm
          rw [decide_eq_false_iff_not]
          show ¬ max (chF l D k).d (l.getD (D.getD k 0).toNat b0).r ≤ day
          omega
      · obtain rfl : k = D.length := by omega
        exact cond_d (fun h => by omega) (fun _ => ⟨rfl, rfl, rfl⟩)
    · rintro lock t h K ⟨hf, _, k1⟩
      refine ⟨0, ?_, Nat.zero_le _, ?_⟩
      · have e : decide ((chF l D 0).d ≤ day) = true := decide_eq_true hd
        skip
        rw [e]
        exact hf
      · rintro e vs bs ⟨rfl, rfl, rfl⟩
        exact k1 _ _ rfl rfl
  · rintro lock t h K ⟨hf, hc, _⟩
    exact (hn hc).elim

theorem lCh_all : LoopsOk Try.prog 32 [(0, lCh l D day need nit)] := fun x hx => by
  simp only [List.mem_singleton] at hx
  subst hx
  exact ⟨by kernel_rfl, lCh_ok⟩
end

theorem choice_v (l : List By) (D : List Int) (day need nit : Int) (hl : l.all okBy = true) (hn : D.length ≤ 40) (hD : dOk D l.length) (hd : 0 ≤ day) (h1 : 0 ≤ nit) (h2 : nit ≤ 10000) {x : Sk} (hx : x = chF l D D.length) :
    ∃ h', CallsV Try.prog 32 [byD l, inD D, I day, I need, I nit] ⟨0, []⟩ (.ret (.tup [I x.p, .bool (fitS day need nit x)])) h' := by
  obtain ⟨r, h', rfl, hc⟩ := of_callN (callL_good hmix noSp (lCh_all (l := l) (D := D) (day := day) (need := need) (nit := nit)) (un := 10) 20) (f := 32) (args := [byD l, inD D, I day, I need, I nit]) (h := ⟨0, []⟩) (K := fun r _ => r = .ret (.tup [I x.p, .bool (fitS day need nit x)])) (by
    refine cast (chf_ev l D day need nit _).symm ?_
    refine ⟨fitP_self rfl, ⟨hl, hn, hD, hd, h1, h2⟩, ?_⟩
    rw [← hx]
    rintro y b rfl rfl
    obtain ⟨_, _, ⟨b4, b5⟩, _, _⟩ := hx ▸ chF_bd (D := D) hl hD D.length (Nat.le_refl _)
    have hmul : 0 ≤ nit * y.w ∧ nit * y.w ≤ 10000 * 4000000000000 := ⟨Int.mul_nonneg h1 b4, by
      calc nit * y.w ≤ 10000 * y.w := Int.mul_le_mul_of_nonneg_right h2 b4
        _ ≤ 10000 * 4000000000000 := Int.mul_le_mul_of_nonneg_left (by omega) (by omega)⟩
    unfold fitS
    refine cond_d (fun g1 => cond_d (fun g2 => cond_r (by omega) ?_) (fun g2 => ?_)) (fun g1 => ?_)
    · rw [decide_eq_false (p := y.d > day) (by omega), decide_eq_false (p := y.w < need) (by omega)]
      by_cases g3 : y.r ≤ nit * y.w
      · rw [decide_eq_true g3, decide_eq_false (by omega)]; rfl
      · rw [decide_eq_false g3, decide_eq_true (by omega)]; rfl
    · rw [decide_eq_true (p := y.w < need) (by omega)]; simp
    · rw [decide_eq_true (p := y.d > day) (by omega)]; rfl)
  exact ⟨h', hc⟩

/-- What a set of lots comes to, as a row. -/
def chT : FuncId × Spec1 := (32, fun _ args h K => match args with
  | [y, z, .int .i64 day, .int .i64 need, .int .i64 nit] => ∃ (l : List By) (D : List Int), isT h y (byD l) ∧ isT h z (inD D) ∧ (l.all okBy = true ∧ D.length ≤ 40 ∧ dOk D l.length ∧ 0 ≤ day ∧ 0 ≤ nit ∧ nit ≤ 10000) ∧ ∀ x : Sk, x = chF l D D.length → K (.ret (.tup [I x.p, .bool (fitS day need nit x)])) h
  | _ => False)
theorem chT_ok : SpOk Try.prog chT.1 chT.2 := by
  intro lock args h K hK
  simp only [chT] at hK
  split at hK
  · obtain ⟨l, D, hy, hz, ⟨h1, h2, h3, h4, h5, h6⟩, hK⟩ := hK
    obtain ⟨h', hc⟩ := choice_v l D _ _ _ h1 h2 h3 h4 h5 h6 rfl
    exact ⟨_, h, hK _ rfl, lockP_refl _ _, calls_lendP hc rfl ⟨hy, hz, ⟨rfl, rfl⟩, ⟨rfl, rfl⟩, ⟨rfl, rfl⟩, trivial⟩⟩
  · exact hK.elim
end Go.Sx.Grs

/- malt: rows for the law MaltCheapest. -/

namespace Go.Sx.Grs
open Go Go.Sx Go.Proofs
set_option maxRecDepth 1000000

theorem calls_res {P : Program} {f : FuncId} {args : List VV} {h h' : VH} {v v2 : VV} (hs : CallsV P f args h (.ret v) h') (hv : ∀ (R : Rn) (x : Value), VRel R v x → VRel R v2 x) : CallsV P f args h (.ret v2) h' := by
  intro B R w xs em hx
  refine (hs B R w xs em hx).mono ?_
  rintro e w' ⟨R', n1, e1, x, hx1, he⟩
  exact ⟨R', n1, e1, x, hv R' x hx1, he⟩

def awT : FuncId × Spec1 := (11, fun _ args h K => match args with
  | [] => K (.ret (.bool true)) h
  | _ => False)
theorem awT_ok : SpOk Try.prog awT.1 awT.2 := by
  intro lock args h K hK
  simp only [awT] at hK
  split at hK
  · exact ⟨_, h, hK, lockP_refl _ _, Go.Sx.Malt.awake_v h⟩
  · exact hK.elim

/-- What Grist answers, but for the lots. -/
def anyV : VRes → VV
  | .ret (.tup [_, p, e]) => .tup [.any, p, e]
  | _ => .tup [.any, I 0, I 1]

theorem grist_any (l : List By) (day need nit : Int) : ∃ h', CallsV Try.prog 28 [byD l, I day, I need, I nit] ⟨0, []⟩ (.ret (anyV (gristR l day need nit))) h' := by
  obtain ⟨h', hc⟩ := grist_v l day need nit
  refine ⟨h', ?_⟩
  have key : ∀ (v p e : VV), gristR l day need nit = .ret (.tup [v, p, e]) → CallsV Try.prog 28 [byD l, I day, I need, I nit] ⟨0, []⟩ (.ret (anyV (gristR l day need nit))) h' := fun v p e h => by
    rw [h] at hc ⊢
    exact calls_res hc (fun R x hx => by
      obtain ⟨xs, ⟨y, ys, _, h2, rfl⟩, rfl⟩ := hx
      exact ⟨_, ⟨y, ys, trivial, h2, rfl⟩, rfl⟩)
  by_cases h1 : ¬ l.length ≤ 12 ∨ l.all okBy = false
  · exact key _ _ _ (by unfold gristR; rw [if_pos h1])
  · by_cases h2 : ¬ ((0 ≤ day ∧ day ≤ 65536) ∧ (0 ≤ need ∧ need ≤ 1099511627776) ∧ 0 ≤ nit ∧ nit ≤ 10000)
    · exact key _ _ _ (by unfold gristR; rw [if_neg h1, if_pos h2])
    · cases hb : bestG l day need nit (2 ^ l.length) with
      | none => exact key _ _ _ (by unfold gristR; rw [if_neg h1, if_neg h2, hb])
      | some y => exact key _ _ _ (by unfold gristR; rw [if_neg h1, if_neg h2, hb])

theorem any_pure {l : List By} {day need nit : Int} : (VRes.ret (anyV (gristR l day need nit))).pure = true := by
  unfold gristR
  split
  · rfl
  · split
    · rfl
    · split <;> rfl

/-- Grist, as a row: what it answers for lots that nobody changes, and for others. -/
def grT (A C : VV) : FuncId × Spec1 := (28, fun _ args h K => match args with
  | [.tl L s g, .int .i64 day, .int .i64 need, .int .i64 nit] => ∃ l, isT h (.tl L s g) (byD l) ∧ gristR l day need nit = .ret A ∧ belL 0 [.tl L s g] = true ∧ A.bel 0 = true ∧ K (.ret A) h
  | [.sl m L, .int .i64 day, .int .i64 need, .int .i64 nit] => ∃ l, isT h (.sl m L) (byD l) ∧ anyV (gristR l day need nit) = C ∧ K (.ret C) h
  | _ => False)
theorem grT_ok {A C : VV} : SpOk Try.prog (grT A C).1 (grT A C).2 := by
  intro lock args h K hK
  simp only [grT] at hK
  split at hK
  · rename_i L s g day need nit
    obtain ⟨l, hx, hr, hb, hA, hK⟩ := hK
    obtain ⟨h', hc⟩ := grist_v l day need nit
    rw [hr] at hc
    have hsh : ∀ (R : Rn) (x : Value), VRel R (.tl L s g) x → VRel R (byD l) x := by
      obtain ⟨e1, e2, e3⟩ := hx
      rintro R x ⟨p, cap, a1, a2, a3⟩
      subst e2
      rw [← e1] at a1 a2 a3
      refine ⟨p, cap, a1, a2, fun i hi => ?_⟩
      obtain ⟨b, o, xs, b1, b2, b3, b4, b5⟩ := a3 i hi
      exact ⟨b, o, xs, b1, b2, b3, by rw [← e3 i (by rw [← e1]; exact hi)]; exact b4, by rw [← e3 i (by rw [← e1]; exact hi)]; exact b5⟩
    have hc2 : CallsV Try.prog 28 [byD l, I day, I need, I nit] h (.ret A) h := calls_lift0 hc rfl hA
    refine ⟨_, h, hK, lockP_refl _ _, fun B R w xs em hx => ?_⟩
    obtain ⟨y, ys, h1, h2, rfl⟩ := hx
    exact hc2 B R w _ em ⟨y, ys, hsh R y h1, h2, rfl⟩
  · rename_i m L day need nit
    obtain ⟨l, hx, hr, hK⟩ := hK
    obtain ⟨h', hc⟩ := grist_any l day need nit
    have hp := any_pure (l := l) (day := day) (need := need) (nit := nit)
    rw [hr] at hc hp
    exact ⟨_, h, hK, lockP_refl _ _, calls_lendP hc hp ⟨hx, ⟨rfl, rfl⟩, ⟨rfl, rfl⟩, ⟨rfl, rfl⟩, trivial⟩⟩
  · exact hK.elim
end Go.Sx.Grs
