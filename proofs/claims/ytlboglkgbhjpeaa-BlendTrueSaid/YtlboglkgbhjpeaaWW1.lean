/- stream: Ba1 BbN1 BbN2 BbP1 BbP2 Bc1 Bc2 BbS1 BbS2 Bd1 Bd2 Be1 BfSV1 BfSV2 BfSC1 BfSC2 BfSL1 BfSL2 BfSH1 BfSH2 Bg1 Bg2 Bh1 Bh2 Bh3 Bi1 Bi2 Bi3 Bj1 Bj2 Bk1 Bk2 Bl1 Bl2 Bm1 Bm2 Bn1 Bn2 Bn3, in one text. -/
import Derived.Test.YtlboglkgbhjpeaaSxO
import Derived.Test.YtlboglkgbhjpeaaSxJ
import Derived.Test.YtlboglkgbhjpeaaSxK
import Derived.Test.YtlboglkgbhjpeaaSxN
import Derived.Test.YtlboglkgbhjpeaaSxU
import Derived.Test.YtlboglkgbhjpeaaSxY
import Derived.Test.YtlboglkgbhjpeaaProg
/- blend: stocks and tastes, basics. -/

namespace Go.Sx.Bln
open Go Go.Sx Go.Proofs
set_option maxRecDepth 100000

theorem hmix : Try.prog.follows .mixedOrders = true := by kernel_rfl
theorem none_good {un : Nat} (m : Nat) : Good Try.prog (callN Try.prog noSpec noL un m) :=
  callN_good hmix (fun _ _ h => by cases h) (fun _ _ _ _ _ _ _ h => by cases h) m
theorem good0 : Good Try.prog (callN Try.prog noSpec noL 10 20) := none_good 20
theorem noL_ok {b : Code} {n : Nat} : ∀ id T, (fun _ : Nat => (none : Option LT)) id = some T → ∀ b' ∈ blocksOf id b, LSound Try.prog true (.block id b') n T := fun _ _ h => by cases h
theorem noSp : ∀ f T, noSpec f = some T → SpOk Try.prog f T := fun _ _ h => by cases h
theorem noL_good {sp : SpecT} (h : ∀ f T, sp f = some T → SpOk Try.prog f T) : Good Try.prog (callN Try.prog sp noL 10 20) := callN_good hmix h (fun _ _ _ _ _ _ _ h => by cases h) 20

@[reducible] def I (n : Int) : VV := .int .i64 n
/-- A span. -/
structure Sp where
  lo : Int
  hi : Int
def s0 : Sp := ⟨0, 0⟩
def spG (l : List Sp) (j : Nat) : List VV := [I (l.getD j s0).lo, I (l.getD j s0).hi]
def spD (l : List Sp) : VV := .tl l.length 2 (spG l)
/-- A stock. -/
structure Stk where
  casks : Int
  vol : Int
  age : Int
  cost : Int
  prof : List Sp
def k0 : Stk := ⟨0, 0, 0, 0, []⟩
def stL (s : Stk) : List VV := [I s.casks, I s.vol, I s.age, I s.cost, spD s.prof]
def stG (l : List Stk) (j : Nat) : List VV := stL (l.getD j k0)
def stD (l : List Stk) : VV := .tl l.length 5 (stG l)
def dG (D : List Int) (j : Nat) : List VV := [I (D.getD j 0)]
def inD (D : List Int) : VV := .tl D.length 1 (dG D)
/-- A taste. -/
structure Tst where
  T : List Int
  far : Int
  least : Int
def tsL (t : Tst) : List VV := [inD t.T, I t.far, I t.least]

end Go.Sx.Bln

/- blend: N, evaluated. -/

namespace Go.Sx.Bln
open Go Go.Sx Go.Proofs
set_option maxRecDepth 1000000

def okN (n : Int) : Bool := decide (0 ≤ n ∧ n ≤ 1000)
/-- Is a note odd, as a row. -/
def rowN : FuncId × Spec1 := (82, fun _ args h K => match args with
  | [.int .i64 n] => K (.ret (.bool (!okN n))) h
  | _ => False)
def dsN : List Nat := [8, 7, 6, 4, 0, 1]
def VN (D : List Int) (i : Int) : List VV := [I i, I D.length, inD D, I 0, inD D, .func 82 [] []]
theorem N_ev (D : List Int) (i : Int) (X : VEx → List VV → List VB → Prop) : codeE Try.prog (callN Try.prog (tabS [rowN]) noL 10 20) (fun _ => none) true 10 19 0 (loopB 0 (bodyOf Try.prog 81)) (dsN.zip (VN D i)) ⟨0, ([] : List Nat).zip []⟩ (obs 0 dsN [] X) =
  (bif decide (i < (↑D.length : Int)) then
 bif decide ((0 : Int) ≤ i ∧ i < (↑D.length : Int)) then
 bif !okN (D.getD i.toNat (0 : Int)) then
 X VEx.ret [I i, I (↑D.length : Int), VV.tl D.length 1 (dG D), I i, VV.tl D.length 1 (dG D), VV.func (82 : FuncId) [] []] []
 else bif inK IntKind.i64 (i + (1 : Int)) then
 X VEx.normal [I (i + (1 : Int)), I (↑D.length : Int), VV.tl D.length 1 (dG D), I 0, VV.tl D.length 1 (dG D), VV.func (82 : FuncId) [] []] []
 else False
 else False
 else X (VEx.exit 0) [I i, I (↑D.length : Int), VV.tl D.length 1 (dG D), I 0, VV.tl D.length 1 (dG D), VV.func (82 : FuncId) [] []] []) := by kernel_rfl

def qN (D : List Int) (i : Nat) : Bool := !okN (D.getD i 0)
/-- Is there one such? -/
def anyN (D : List Int) : Bool := (List.range D.length).any (qN D)
def lN (D : List Int) : LT := fun lock t h K =>
  FitP lock h t ⟨0, ([] : List Nat).zip []⟩ (dsN.zip (VN D 0)) ∧ D.length ≤ 100000 ∧ (anyN D = false → K .normal (dsN.zip (VN D D.length)) ⟨0, ([] : List Nat).zip []⟩) ∧ (anyN D = true → ∀ i : Nat, K .ret (dsN.zip [I i, I D.length, inD D, I i, inD D, .func 82 [] []]) ⟨0, ([] : List Nat).zip []⟩)
theorem Nf_ev (D : List Int) (Q : VRes → Prop) : callN Try.prog noSpec (atF 81 [(0, lN D)]) 10 20 0 (.fn 60) [inD D, .func 82 [] []] ⟨0, []⟩ (fun r _ => Q r) =
  (FitP 0 (VH.mk 0 ([].zip [])) (dsN.zip (VN D (0 : Int))) (VH.mk 0 ([].zip [])) (dsN.zip (VN D (0 : Int))) ∧ D.length ≤ 100000 ∧ (anyN D = false → Q (VRes.ret (VV.bool (decide ((-1 : Int) ≥ (0 : Int)))))) ∧ (anyN D = true → ∀ (i : Nat), Q (VRes.ret (VV.bool (decide ((↑i : Int) ≥ (0 : Int))))))) := by kernel_rfl

end Go.Sx.Bln

/- blend: N. -/

namespace Go.Sx.Bln
open Go Go.Sx Go.Proofs
set_option maxRecDepth 1000000

section
variable {D : List Int}

def ON (D : List Int) (_ : Nat) (e : VEx) (vs : List VV) (bs : List VB) : Prop :=
  bs = [] ∧ ((anyN D = false ∧ e = .exit 0 ∧ vs = VN D D.length) ∨ (anyN D = true ∧ e = .ret ∧ ∃ i : Nat, vs = [I i, I D.length, inD D, I i, inD D, .func 82 [] []]))

theorem lN_ok (hrow : SpOk Try.prog rowN.1 rowN.2) : LSound Try.prog true (.block 0 (.loop (loopB 0 (bodyOf Try.prog 81)))) 19 (lN D) := by
  by_cases hn : D.length ≤ 100000
  · refine loop_row hmix (noL_good (tab_ok [rowN] (fun x hx => by
      simp only [List.mem_singleton] at hx
      subst hx
      exact hrow))) (un := 10) (ds := dsN) (ns := []) (nx := 0) (fun i : Nat => VN D i) (fun _ => []) (fun i => i ≤ D.length ∧ ∀ j, j < i → qN D j = false) (fun i => D.length - i) (ON D) noL_ok ?_ ?_
    · rintro i ⟨h0, h1⟩
      refine cast (N_ev D i _).symm ?_
      by_cases hlt : i < D.length
      · refine cond_dk (by omega) (cond_dk ⟨by omega, by omega⟩ ?_)
        rw [show (i : Int).toNat = i by omega]
        have key : ∀ b : Bool, b = qN D i → (bif b then RoundQ (fun i : Nat => VN D i) (fun _ => []) (fun i => i ≤ D.length ∧ ∀ j, j < i → qN D j = false) (fun i => D.length - i) (ON D) i .ret [I i, I D.length, inD D, I i, inD D, .func 82 [] []] [] else bif inK .i64 ((i : Int) + 1) then RoundQ (fun i : Nat => VN D i) (fun _ => []) (fun i => i ≤ D.length ∧ ∀ j, j < i → qN D j = false) (fun i => D.length - i) (ON D) i .normal (VN D (i + 1)) [] else False) := by
          rintro b rfl
          refine cond_i (fun h => ⟨rfl, .inr ⟨?_, rfl, i, rfl⟩⟩) (fun h => cond_r (by omega) ⟨i + 1, ⟨by omega, fun j hj => ?_⟩, by dsimp only; omega, rfl, fitBs_refl _, fun _ _ _ h => h⟩)
          · unfold anyN
            rw [List.any_eq_true]
            exact ⟨i, List.mem_range.2 hlt, h⟩
          · by_cases e : j = i
            · subst e; exact h
            · exact h1 j (by omega)
        exact key _ rfl
      · obtain rfl : i = D.length := by omega
        refine cond_d (fun h => by omega) (fun _ => ⟨rfl, .inl ⟨?_, rfl, rfl⟩⟩)
        unfold anyN
        rw [List.any_eq_false]
        intro j hj
        rw [h1 j (List.mem_range.1 hj)]
        simp
    · rintro lock t h K ⟨hf, _, k1, k2⟩
      refine ⟨0, hf, ⟨Nat.zero_le _, fun j hj => by omega⟩, ?_⟩
      rintro e vs bs ⟨rfl, ⟨g, rfl, rfl⟩ | ⟨g, rfl, i, rfl⟩⟩
      · exact k1 g
      · exact k2 g i
  · rintro lock t h K ⟨hf, hc, _⟩
    exact (hn hc).elim

theorem anyN_v (hrow : SpOk Try.prog rowN.1 rowN.2) (hn : D.length ≤ 100000) : ∃ h', CallsV Try.prog 60 [inD D, .func 82 [] []] ⟨0, []⟩ (.ret (.bool (anyN D))) h' := by
  have hall : LoopsOk Try.prog 81 [(0, lN D)] := fun x hx => by
    simp only [List.mem_singleton] at hx
    subst hx
    exact ⟨by kernel_rfl, lN_ok hrow⟩
  obtain ⟨r, h', rfl, hc⟩ := of_callN (callL_good hmix noSp hall (un := 10) 20) (f := 60) (args := [inD D, .func 82 [] []]) (h := ⟨0, []⟩) (K := fun r _ => r = .ret (.bool (anyN D))) (by
    refine cast (Nf_ev D _).symm ?_
    refine ⟨fitP_self rfl, hn, fun h => by rw [h]; rfl, fun h i => by rw [h, decide_eq_true (by omega)]⟩)
  exact ⟨h', hc⟩
end
end Go.Sx.Bln

/- blend: P, evaluated. -/

namespace Go.Sx.Bln
open Go Go.Sx Go.Proofs
set_option maxRecDepth 1000000

def okP (n : Sp) : Bool := decide (0 ≤ n.lo ∧ n.lo ≤ n.hi ∧ n.hi ≤ 1000)
/-- Is a span odd, as a row. -/
def rowP : FuncId × Spec1 := (84, fun _ args h K => match args with
  | [.agg [.int .i64 a, .int .i64 b]] => K (.ret (.bool (!okP ⟨a, b⟩))) h
  | _ => False)
def dsP : List Nat := [8, 7, 6, 4, 0, 1]
def VP (D : List Sp) (i : Int) : List VV := [I i, I D.length, spD D, I 0, spD D, .func 84 [] []]
theorem P_ev (D : List Sp) (i : Int) (X : VEx → List VV → List VB → Prop) : codeE Try.prog (callN Try.prog (tabS [rowP]) noL 10 20) (fun _ => none) true 10 19 0 (loopB 0 (bodyOf Try.prog 90)) (dsP.zip (VP D i)) ⟨0, ([] : List Nat).zip []⟩ (obs 0 dsP [] X) =
  (bif decide (i < (↑D.length : Int)) then
 bif decide ((0 : Int) ≤ i ∧ i < (↑D.length : Int)) then
 bif !okP (Sp.mk (D.getD i.toNat s0).lo (D.getD i.toNat s0).hi) then
 X VEx.ret [I i, I (↑D.length : Int), VV.tl D.length 2 (spG D), I i, VV.tl D.length 2 (spG D), VV.func (84 : FuncId) [] []] []
 else bif inK IntKind.i64 (i + (1 : Int)) then
 X VEx.normal [I (i + (1 : Int)), I (↑D.length : Int), VV.tl D.length 2 (spG D), I 0, VV.tl D.length 2 (spG D), VV.func (84 : FuncId) [] []] []
 else False
 else False
 else X (VEx.exit 0) [I i, I (↑D.length : Int), VV.tl D.length 2 (spG D), I 0, VV.tl D.length 2 (spG D), VV.func (84 : FuncId) [] []] []) := by kernel_rfl

def qP (D : List Sp) (i : Nat) : Bool := !okP (D.getD i s0)
/-- Is there one such? -/
def anyP (D : List Sp) : Bool := (List.range D.length).any (qP D)
def lP (D : List Sp) : LT := fun lock t h K =>
  FitP lock h t ⟨0, ([] : List Nat).zip []⟩ (dsP.zip (VP D 0)) ∧ D.length ≤ 100000 ∧ (anyP D = false → K .normal (dsP.zip (VP D D.length)) ⟨0, ([] : List Nat).zip []⟩) ∧ (anyP D = true → ∀ i : Nat, K .ret (dsP.zip [I i, I D.length, spD D, I i, spD D, .func 84 [] []]) ⟨0, ([] : List Nat).zip []⟩)
theorem Pf_ev (D : List Sp) (Q : VRes → Prop) : callN Try.prog noSpec (atF 90 [(0, lP D)]) 10 20 0 (.fn 85) [spD D, .func 84 [] []] ⟨0, []⟩ (fun r _ => Q r) =
  (FitP 0 (VH.mk 0 ([].zip [])) (dsP.zip (VP D (0 : Int))) (VH.mk 0 ([].zip [])) (dsP.zip (VP D (0 : Int))) ∧ D.length ≤ 100000 ∧ (anyP D = false → Q (VRes.ret (VV.bool (decide ((-1 : Int) ≥ (0 : Int)))))) ∧ (anyP D = true → ∀ (i : Nat), Q (VRes.ret (VV.bool (decide ((↑i : Int) ≥ (0 : Int))))))) := by kernel_rfl

end Go.Sx.Bln

/- blend: P. -/

namespace Go.Sx.Bln
open Go Go.Sx Go.Proofs
set_option maxRecDepth 1000000

section
variable {D : List Sp}

def OP (D : List Sp) (_ : Nat) (e : VEx) (vs : List VV) (bs : List VB) : Prop :=
  bs = [] ∧ ((anyP D = false ∧ e = .exit 0 ∧ vs = VP D D.length) ∨ (anyP D = true ∧ e = .ret ∧ ∃ i : Nat, vs = [I i, I D.length, spD D, I i, spD D, .func 84 [] []]))

theorem lP_ok (hrow : SpOk Try.prog rowP.1 rowP.2) : LSound Try.prog true (.block 0 (.loop (loopB 0 (bodyOf Try.prog 90)))) 19 (lP D) := by
  by_cases hn : D.length ≤ 100000
  · refine loop_row hmix (noL_good (tab_ok [rowP] (fun x hx => by
      simp only [List.mem_singleton] at hx
      subst hx
      exact hrow))) (un := 10) (ds := dsP) (ns := []) (nx := 0) (fun i : Nat => VP D i) (fun _ => []) (fun i => i ≤ D.length ∧ ∀ j, j < i → qP D j = false) (fun i => D.length - i) (OP D) noL_ok ?_ ?_
    · rintro i ⟨h0, h1⟩
      refine cast (P_ev D i _).symm ?_
      by_cases hlt : i < D.length
      · refine cond_dk (by omega) (cond_dk ⟨by omega, by omega⟩ ?_)
        rw [show (i : Int).toNat = i by omega]
        have key : ∀ b : Bool, b = qP D i → (bif b then RoundQ (fun i : Nat => VP D i) (fun _ => []) (fun i => i ≤ D.length ∧ ∀ j, j < i → qP D j = false) (fun i => D.length - i) (OP D) i .ret [I i, I D.length, spD D, I i, spD D, .func 84 [] []] [] else bif inK .i64 ((i : Int) + 1) then RoundQ (fun i : Nat => VP D i) (fun _ => []) (fun i => i ≤ D.length ∧ ∀ j, j < i → qP D j = false) (fun i => D.length - i) (OP D) i .normal (VP D (i + 1)) [] else False) := by
          rintro b rfl
          refine cond_i (fun h => ⟨rfl, .inr ⟨?_, rfl, i, rfl⟩⟩) (fun h => cond_r (by omega) ⟨i + 1, ⟨by omega, fun j hj => ?_⟩, by dsimp only; omega, rfl, fitBs_refl _, fun _ _ _ h => h⟩)
          · unfold anyP
            rw [List.any_eq_true]
            exact ⟨i, List.mem_range.2 hlt, h⟩
          · by_cases e : j = i
            · subst e; exact h
            · exact h1 j (by omega)
        exact key _ rfl
      · obtain rfl : i = D.length := by omega
        refine cond_d (fun h => by omega) (fun _ => ⟨rfl, .inl ⟨?_, rfl, rfl⟩⟩)
        unfold anyP
        rw [List.any_eq_false]
        intro j hj
        rw [h1 j (List.mem_range.1 hj)]
        simp
    · rintro lock t h K ⟨hf, _, k1, k2⟩
      refine ⟨0, hf, ⟨Nat.zero_le _, fun j hj => by omega⟩, ?_⟩
      rintro e vs bs ⟨rfl, ⟨g, rfl, rfl⟩ | ⟨g, rfl, i, rfl⟩⟩
      · exact k1 g
      · exact k2 g i
  · rintro lock t h K ⟨hf, hc, _⟩
    exact (hn hc).elim

theorem anyP_v (hrow : SpOk Try.prog rowP.1 rowP.2) (hn : D.length ≤ 100000) : ∃ h', CallsV Try.prog 85 [spD D, .func 84 [] []] ⟨0, []⟩ (.ret (.bool (anyP D))) h' := by
  have hall : LoopsOk Try.prog 90 [(0, lP D)] := fun x hx => by
    simp only [List.mem_singleton] at hx
    subst hx
    exact ⟨by kernel_rfl, lP_ok hrow⟩
  obtain ⟨r, h', rfl, hc⟩ := of_callN (callL_good hmix noSp hall (un := 10) 20) (f := 85) (args := [spD D, .func 84 [] []]) (h := ⟨0, []⟩) (K := fun r _ => r = .ret (.bool (anyP D))) (by
    refine cast (Pf_ev D _).symm ?_
    refine ⟨fitP_self rfl, hn, fun h => by rw [h]; rfl, fun h i => by rw [h, decide_eq_true (by omega)]⟩)
  exact ⟨h', hc⟩
end
end Go.Sx.Bln

/- blend: valid stocks, evaluated. -/

namespace Go.Sx.Bln
open Go Go.Sx Go.Proofs
set_option maxRecDepth 1000000

theorem n82_ev (n : Int) (Q : VRes → Prop) : callN Try.prog noSpec noL 10 20 0 (.fn 82) [I n] ⟨0, []⟩ (fun r _ => Q r) =
  (bif decide ((0 : Int) ≤ n) then
 Q (VRes.ret (VV.bool !decide (n ≤ (1000 : Int))))
 else Q (VRes.ret (VV.bool !false))) := by kernel_rfl

theorem n84_ev (n : Sp) (Q : VRes → Prop) : callN Try.prog noSpec noL 10 20 0 (.fn 84) [.agg [I n.lo, I n.hi]] ⟨0, []⟩ (fun r _ => Q r) =
  (bif decide (n.lo < (0 : Int)) then
 Q (VRes.ret (VV.bool true))
 else bif decide (n.lo > n.hi) then
 Q (VRes.ret (VV.bool true))
 else Q (VRes.ret (VV.bool (decide (n.hi > (1000 : Int)))))) := by kernel_rfl

/-- Is a note odd, in a list. -/
def cfN : FuncId × Spec1 := (60, fun _ args h K => match args with
  | [x, .func 82 [] []] => ∃ D : List Int, isD h 1 x (inD D) ∧ D.length ≤ 100000 ∧ K (.ret (.bool (anyN D))) h
  | _ => False)
def cfP : FuncId × Spec1 := (85, fun _ args h K => match args with
  | [x, .func 84 [] []] => ∃ D : List Sp, isD h 1 x (spD D) ∧ D.length ≤ 100000 ∧ K (.ret (.bool (anyP D))) h
  | _ => False)
theorem ta_ev (t : Tst) (Q : VRes → Prop) : callN Try.prog (tabS [cfN]) noL 10 20 0 (.fn 67) [.agg (tsL t)] ⟨0, []⟩ (fun r _ => Q r) =
  (bif decide ((1 : Int) ≤ (↑t.T.length : Int)) then
 bif decide ((↑t.T.length : Int) ≤ (4 : Int)) then
 ∃ D, isD (VH.mk (0 + 1) [(0, VB.cells [VV.tl t.T.length 1 (dG t.T), I t.far, I t.least] 25)]) 1 (VV.tl t.T.length 1 (dG t.T)) (inD D) ∧ D.length ≤ 100000 ∧ bif !anyN D then
 bif decide ((0 : Int) ≤ t.far) then
 bif decide (t.far ≤ (1000 : Int)) then
 bif decide ((0 : Int) ≤ t.least) then
 Q (VRes.ret (VV.bool (decide (t.least ≤ (100 : Int)))))
 else Q (VRes.ret (VV.bool false))
 else Q (VRes.ret (VV.bool false))
 else Q (VRes.ret (VV.bool false))
 else Q (VRes.ret (VV.bool false))
 else Q (VRes.ret (VV.bool false))
 else Q (VRes.ret (VV.bool false))) := by kernel_rfl

theorem sk_ev (s : Stk) (t : Tst) (Q : VRes → Prop) : callN Try.prog (tabS [cfP]) noL 10 20 0 (.fn 69) [.agg (stL s), .tp (tsL t)] ⟨0, []⟩ (fun r _ => Q r) =
  (bif decide ((0 : Int) ≤ s.casks) then
 bif decide (s.casks ≤ (6 : Int)) then
 bif decide ((1 : Int) ≤ s.vol) then
 bif decide (s.vol ≤ (65536 : Int)) then
 bif decide ((0 : Int) ≤ s.age) then
 bif decide (s.age ≤ (100 : Int)) then
 bif decide ((0 : Int) ≤ s.cost) then
 bif decide (s.cost ≤ (1048576 : Int)) then
 bif decide ((↑s.prof.length : Int) = (↑t.T.length : Int)) then
 ∃ D, isD (VH.mk (3) [(2, VB.cells [VV.tl t.T.length 1 (dG t.T), I t.far, I t.least] 25), (1, VB.cells [I s.casks, I s.vol, I s.age, I s.cost, VV.tl s.prof.length 2 (spG s.prof)] 32), (0, VB.cells [I s.casks, I s.vol, I s.age, I s.cost, VV.tl s.prof.length 2 (spG s.prof)] 32)]) 1 (VV.tl s.prof.length 2 (spG s.prof)) (spD D) ∧ D.length ≤ 100000 ∧ Q (VRes.ret (VV.bool !!anyP D))
 else Q (VRes.ret (VV.bool !false))
 else Q (VRes.ret (VV.bool !false))
 else Q (VRes.ret (VV.bool !false))
 else Q (VRes.ret (VV.bool !false))
 else Q (VRes.ret (VV.bool !false))
 else Q (VRes.ret (VV.bool !false))
 else Q (VRes.ret (VV.bool !false))
 else Q (VRes.ret (VV.bool !false))
 else Q (VRes.ret (VV.bool !false))) := by kernel_rfl

end Go.Sx.Bln

/- blend: valid stocks. -/

namespace Go.Sx.Bln
open Go Go.Sx Go.Proofs
set_option maxRecDepth 1000000

theorem rowN_ok : SpOk Try.prog rowN.1 rowN.2 := by
  intro lock args h K hK
  simp only [rowN] at hK
  split at hK
  · rename_i n
    obtain ⟨r, h', rfl, hc⟩ := of_callN good0 (f := 82) (args := [I n]) (h := ⟨0, []⟩) (K := fun r _ => r = .ret (.bool (!okN n))) (by
      refine cast (n82_ev n _).symm ?_
      unfold okN
      refine cond_d (fun h1 => ?_) (fun h1 => ?_)
      · by_cases h2 : n ≤ 1000
        · rw [decide_eq_true h2, decide_eq_true ⟨h1, h2⟩]
        · rw [decide_eq_false h2, decide_eq_false (fun h => h2 h.2)]
      · rw [decide_eq_false (fun h => h1 h.1)])
    exact ⟨_, h, hK, lockP_refl _ _, calls_lendDP 1 hc rfl ⟨⟨rfl, rfl⟩, trivial⟩⟩
  · exact hK.elim
theorem rowP_ok : SpOk Try.prog rowP.1 rowP.2 := by
  intro lock args h K hK
  simp only [rowP] at hK
  split at hK
  · rename_i a b
    obtain ⟨r, h', rfl, hc⟩ := of_callN good0 (f := 84) (args := [.agg [I a, I b]]) (h := ⟨0, []⟩) (K := fun r _ => r = .ret (.bool (!okP ⟨a, b⟩))) (by
      refine cast (n84_ev ⟨a, b⟩ _).symm ?_
      unfold okP
      refine cond_d (fun h1 => ?_) (fun h1 => cond_d (fun h2 => ?_) (fun h2 => ?_)) <;> dsimp only at *
      · rw [decide_eq_false (by omega)]; rfl
      · rw [decide_eq_false (by omega)]; rfl
      · by_cases h3 : b > 1000
        · rw [decide_eq_true h3, decide_eq_false (by omega)]; rfl
        · rw [decide_eq_false h3, decide_eq_true (by omega)]; rfl)
    exact ⟨_, h, hK, lockP_refl _ _, calls_lendDP 2 hc rfl ⟨⟨⟨rfl, rfl⟩, ⟨rfl, rfl⟩, trivial⟩, trivial⟩⟩
  · exact hK.elim
theorem cfN_ok : SpOk Try.prog cfN.1 cfN.2 := by
  intro lock args h K hK
  simp only [cfN] at hK
  split at hK
  · obtain ⟨D, hx, hn, hK⟩ := hK
    obtain ⟨h', hc⟩ := anyN_v rowN_ok hn
    exact ⟨_, h, hK, lockP_refl _ _, calls_lendDP 1 hc rfl ⟨hx, ⟨rfl, trivial, trivial⟩, trivial⟩⟩
  · exact hK.elim
theorem cfP_ok : SpOk Try.prog cfP.1 cfP.2 := by
  intro lock args h K hK
  simp only [cfP] at hK
  split at hK
  · obtain ⟨D, hx, hn, hK⟩ := hK
    obtain ⟨h', hc⟩ := anyP_v rowP_ok hn
    exact ⟨_, h, hK, lockP_refl _ _, calls_lendDP 1 hc rfl ⟨hx, ⟨rfl, trivial, trivial⟩, trivial⟩⟩
  · exact hK.elim
theorem tab1 {T : FuncId × Spec1} (h : SpOk Try.prog T.1 T.2) : ∀ f U, tabS [T] f = some U → SpOk Try.prog f U := tab_ok _ (fun x hx => by
  simp only [List.mem_singleton] at hx
  subst hx
  exact h)

def okT (t : Tst) : Bool := decide (1 ≤ t.T.length ∧ t.T.length ≤ 4) && !anyN t.T && decide (0 ≤ t.far ∧ t.far ≤ 1000) && decide (0 ≤ t.least ∧ t.least ≤ 100)
def okS (t : Tst) (s : Stk) : Bool := decide ((0 ≤ s.casks ∧ s.casks ≤ 6) ∧ (1 ≤ s.vol ∧ s.vol ≤ 65536) ∧ (0 ≤ s.age ∧ s.age ≤ 100) ∧ (0 ≤ s.cost ∧ s.cost ≤ 1048576) ∧ s.prof.length = t.T.length) && !anyP s.prof

theorem taste_v (t : Tst) : ∃ h', CallsV Try.prog 67 [.agg (tsL t)] ⟨0, []⟩ (.ret (.bool (okT t))) h' := by
  obtain ⟨r, h', rfl, hc⟩ := of_callN (noL_good (tab1 cfN_ok)) (f := 67) (args := [.agg (tsL t)]) (h := ⟨0, []⟩) (K := fun r _ => r = .ret (.bool (okT t))) (by
    refine cast (ta_ev t _).symm ?_
    have e : ∀ x : Bool, okT t = x → VRes.ret (VV.bool x) = VRes.ret (VV.bool (okT t)) := fun x hx => by rw [hx]
    unfold okT at e ⊢
    refine cond_d (fun h1 => cond_d (fun h2 => ⟨t.T, ⟨rfl, rfl, fun _ _ => rfl⟩, by omega, cond_i (fun h3 => cond_d (fun h4 => cond_d (fun h5 => cond_d (fun h6 => e _ ?_) (fun h6 => e _ ?_)) (fun h5 => e _ ?_)) (fun h4 => e _ ?_)) (fun h3 => e _ ?_)⟩) (fun h2 => e _ ?_)) (fun h1 => e _ ?_)
    · rw [h3, decide_eq_true (p := 1 ≤ t.T.length ∧ _) (by omega), decide_eq_true (p := 0 ≤ t.far ∧ _) (by omega), Bool.true_and, Bool.true_and, Bool.true_and, decide_eq_decide]
      omega
    · rw [decide_eq_false (p := 0 ≤ t.least ∧ _) (by omega), Bool.and_false]
    · rw [decide_eq_false (p := 0 ≤ t.far ∧ _) (by omega), Bool.and_false, Bool.false_and]
    · rw [decide_eq_false (p := 0 ≤ t.far ∧ _) (by omega), Bool.and_false, Bool.false_and]
    · rw [h3, Bool.and_false, Bool.false_and, Bool.false_and]
    · rw [decide_eq_false (p := 1 ≤ t.T.length ∧ _) (by omega)]; rfl
    · rw [decide_eq_false (p := 1 ≤ t.T.length ∧ _) (by omega)]; rfl)
  exact ⟨h', hc⟩

theorem stock_v (s : Stk) (t : Tst) (ht : t.T.length ≤ 4) : ∃ h', CallsV Try.prog 69 [.agg (stL s), .tp (tsL t)] ⟨0, []⟩ (.ret (.bool (!okS t s))) h' := by
  obtain ⟨r, h', rfl, hc⟩ := of_callN (noL_good (tab1 cfP_ok)) (f := 69) (args := [.agg (stL s), .tp (tsL t)]) (h := ⟨0, []⟩) (K := fun r _ => r = .ret (.bool (!okS t s))) (by
    refine cast (sk_ev s t _).symm ?_
    have e : ¬ ((0 ≤ s.casks ∧ s.casks ≤ 6) ∧ (1 ≤ s.vol ∧ s.vol ≤ 65536) ∧ (0 ≤ s.age ∧ s.age ≤ 100) ∧ (0 ≤ s.cost ∧ s.cost ≤ 1048576) ∧ s.prof.length = t.T.length) → VRes.ret (VV.bool (!false)) = VRes.ret (VV.bool (!okS t s)) := fun h => by
      unfold okS; rw [decide_eq_false h]; rfl
    refine cond_d (fun h1 => cond_d (fun h2 => cond_d (fun h3 => cond_d (fun h4 => cond_d (fun h5 => cond_d (fun h6 => cond_d (fun h7 => cond_d (fun h8 => cond_d (fun h9 => ⟨s.prof, ⟨rfl, rfl, fun _ _ => rfl⟩, by omega, ?_⟩) (fun h => e (by omega))) (fun h => e (by omega))) (fun h => e (by omega))) (fun h => e (by omega))) (fun h => e (by omega))) (fun h => e (by omega))) (fun h => e (by omega))) (fun h => e (by omega))) (fun h => e (by omega))
    unfold okS
    rw [decide_eq_true (p := (0 ≤ s.casks ∧ _) ∧ _) (by omega), Bool.true_and])
  exact ⟨h', hc⟩

/-- Is a taste valid, as a row. -/
def taT : FuncId × Spec1 := (67, fun _ args h K => match args with
  | [x] => ∃ t : Tst, isD h 2 x (.agg (tsL t)) ∧ K (.ret (.bool (okT t))) h
  | _ => False)
theorem taT_ok : SpOk Try.prog taT.1 taT.2 := by
  intro lock args h K hK
  simp only [taT] at hK
  split at hK
  · obtain ⟨t, hx, hK⟩ := hK
    obtain ⟨h', hc⟩ := taste_v t
    exact ⟨_, h, hK, lockP_refl _ _, calls_lendDP 2 hc rfl ⟨hx, trivial⟩⟩
  · exact hK.elim
end Go.Sx.Bln

/- blend: S, evaluated. -/

namespace Go.Sx.Bln
open Go Go.Sx Go.Proofs
set_option maxRecDepth 1000000

/-- Is a stock odd, as a row. -/
def rowS : FuncId × Spec1 := (69, fun _ args h K => match args with
  | [.agg cs, .tp ts] => ∃ (s : Stk) (t : Tst), cs = stL s ∧ ts = tsL t ∧ t.T.length ≤ 4 ∧ K (.ret (.bool (!okS t s))) h
  | _ => False)
def dsS : List Nat := [8, 7, 6, 4, 0, 1]
def VS (l : List Stk) (tt : Tst) (i : Int) : List VV := [I i, I l.length, stD l, I 0, stD l, .func 69 [] [.tp (tsL tt)]]
theorem S_ev (l : List Stk) (tt : Tst) (i : Int) (X : VEx → List VV → List VB → Prop) : codeE Try.prog (callN Try.prog (tabS [rowS]) noL 10 20) (fun _ => none) true 10 19 0 (loopB 0 (bodyOf Try.prog 83)) (dsS.zip (VS l tt i)) ⟨0, ([] : List Nat).zip []⟩ (obs 0 dsS [] X) =
  (bif decide (i < (↑l.length : Int)) then
 bif decide ((0 : Int) ≤ i ∧ i < (↑l.length : Int)) then
 ∃ (s : Stk) (t : Tst), [I (l.getD i.toNat k0).casks, I (l.getD i.toNat k0).vol, I (l.getD i.toNat k0).age, I (l.getD i.toNat k0).cost, VV.tl (l.getD i.toNat k0).prof.length 2 (spG (l.getD i.toNat k0).prof)] = stL s ∧ tsL tt = tsL t ∧ t.T.length ≤ 4 ∧ bif !okS t s then
 X VEx.ret [I i, I (↑l.length : Int), VV.tl l.length 5 (stG l), I i, VV.tl l.length 5 (stG l), VV.func (69 : FuncId) [] [VV.tp [VV.tl tt.T.length 1 (dG tt.T), I tt.far, I tt.least]]] []
 else bif inK IntKind.i64 (i + (1 : Int)) then
 X VEx.normal [I (i + (1 : Int)), I (↑l.length : Int), VV.tl l.length 5 (stG l), I 0, VV.tl l.length 5 (stG l), VV.func (69 : FuncId) [] [VV.tp [VV.tl tt.T.length 1 (dG tt.T), I tt.far, I tt.least]]] []
 else False
 else False
 else X (VEx.exit 0) [I i, I (↑l.length : Int), VV.tl l.length 5 (stG l), I 0, VV.tl l.length 5 (stG l), VV.func (69 : FuncId) [] [VV.tp [VV.tl tt.T.length 1 (dG tt.T), I tt.far, I tt.least]]] []) := by kernel_rfl

def qS (l : List Stk) (tt : Tst) (i : Nat) : Bool := !okS tt (l.getD i k0)
/-- Is there one such? -/
def anyS (l : List Stk) (tt : Tst) : Bool := (List.range l.length).any (qS l tt)
def lS (l : List Stk) (tt : Tst) : LT := fun lock t h K =>
  FitP lock h t ⟨0, ([] : List Nat).zip []⟩ (dsS.zip (VS l tt 0)) ∧ l.length ≤ 100000 ∧ (anyS l tt = false → K .normal (dsS.zip (VS l tt l.length)) ⟨0, ([] : List Nat).zip []⟩) ∧ (anyS l tt = true → ∀ i : Nat, K .ret (dsS.zip [I i, I l.length, stD l, I i, stD l, .func 69 [] [.tp (tsL tt)]]) ⟨0, ([] : List Nat).zip []⟩)
theorem Sf_ev (l : List Stk) (tt : Tst) (Q : VRes → Prop) : callN Try.prog noSpec (atF 83 [(0, lS l tt)]) 10 20 0 (.fn 68) [stD l, .func 69 [] [.tp (tsL tt)]] ⟨0, []⟩ (fun r _ => Q r) =
  (FitP 0 (VH.mk 0 ([].zip [])) (dsS.zip (VS l tt (0 : Int))) (VH.mk 0 ([].zip [])) (dsS.zip (VS l tt (0 : Int))) ∧ l.length ≤ 100000 ∧ (anyS l tt = false → Q (VRes.ret (VV.bool (decide ((-1 : Int) ≥ (0 : Int)))))) ∧ (anyS l tt = true → ∀ (i : Nat), Q (VRes.ret (VV.bool (decide ((↑i : Int) ≥ (0 : Int))))))) := by kernel_rfl

end Go.Sx.Bln

/- blend: S. -/

namespace Go.Sx.Bln
open Go Go.Sx Go.Proofs
set_option maxRecDepth 1000000

section
variable {l : List Stk} {tt : Tst}

def OS (l : List Stk) (tt : Tst) (_ : Nat) (e : VEx) (vs : List VV) (bs : List VB) : Prop :=
  bs = [] ∧ ((anyS l tt = false ∧ e = .exit 0 ∧ vs = VS l tt l.length) ∨ (anyS l tt = true ∧ e = .ret ∧ ∃ i : Nat, vs = [I i, I l.length, stD l, I i, stD l, .func 69 [] [.tp (tsL tt)]]))

theorem lS_ok (ht : tt.T.length ≤ 4) (hrow : SpOk Try.prog rowS.1 rowS.2) : LSound Try.prog true (.block 0 (.loop (loopB 0 (bodyOf Try.prog 83)))) 19 (lS l tt) := by
  by_cases hn : l.length ≤ 100000
  · refine loop_row hmix (noL_good (tab_ok [rowS] (fun x hx => by
      simp only [List.mem_singleton] at hx
      subst hx
      exact hrow))) (un := 10) (ds := dsS) (ns := []) (nx := 0) (fun i : Nat => VS l tt i) (fun _ => []) (fun i => i ≤ l.length ∧ ∀ j, j < i → qS l tt j = false) (fun i => l.length - i) (OS l tt) noL_ok ?_ ?_
    · rintro i ⟨h0, h1⟩
      refine cast (S_ev l tt i _).symm ?_
      by_cases hlt : i < l.length
      · refine cond_dk (by omega) (cond_dk ⟨by omega, by omega⟩ ?_)
        rw [show (i : Int).toNat = i by omega]
        have key : ∀ b : Bool, b = qS l tt i → (bif b then RoundQ (fun i : Nat => VS l tt i) (fun _ => []) (fun i => i ≤ l.length ∧ ∀ j, j < i → qS l tt j = false) (fun i => l.length - i) (OS l tt) i .ret [I i, I l.length, stD l, I i, stD l, .func 69 [] [.tp (tsL tt)]] [] else bif inK .i64 ((i : Int) + 1) then RoundQ (fun i : Nat => VS l tt i) (fun _ => []) (fun i => i ≤ l.length ∧ ∀ j, j < i → qS l tt j = false) (fun i => l.length - i) (OS l tt) i .normal (VS l tt (i + 1)) [] else False) := by
          rintro b rfl
          refine cond_i (fun h => ⟨rfl, .inr ⟨?_, rfl, i, rfl⟩⟩) (fun h => cond_r (by omega) ⟨i + 1, ⟨by omega, fun j hj => ?_⟩, by dsimp only; omega, rfl, fitBs_refl _, fun _ _ _ h => h⟩)
          · unfold anyS
            rw [List.any_eq_true]
            exact ⟨i, List.mem_range.2 hlt, h⟩
          · by_cases e : j = i
            · subst e; exact h
            · exact h1 j (by omega)
        exact ⟨l.getD i k0, tt, rfl, rfl, ht, key _ rfl⟩
      · obtain rfl : i = l.length := by omega
        refine cond_d (fun h => by omega) (fun _ => ⟨rfl, .inl ⟨?_, rfl, rfl⟩⟩)
        unfold anyS
        rw [List.any_eq_false]
        intro j hj
        rw [h1 j (List.mem_range.1 hj)]
        simp
    · rintro lock t h K ⟨hf, _, k1, k2⟩
      refine ⟨0, hf, ⟨Nat.zero_le _, fun j hj => by omega⟩, ?_⟩
      rintro e vs bs ⟨rfl, ⟨g, rfl, rfl⟩ | ⟨g, rfl, i, rfl⟩⟩
      · exact k1 g
      · exact k2 g i
  · rintro lock t h K ⟨hf, hc, _⟩
    exact (hn hc).elim

theorem anyS_v (ht : tt.T.length ≤ 4) (hrow : SpOk Try.prog rowS.1 rowS.2) (hn : l.length ≤ 100000) : ∃ h', CallsV Try.prog 68 [stD l, .func 69 [] [.tp (tsL tt)]] ⟨0, []⟩ (.ret (.bool (anyS l tt))) h' := by
  have hall : LoopsOk Try.prog 83 [(0, lS l tt)] := fun x hx => by
    simp only [List.mem_singleton] at hx
    subst hx
    exact ⟨by kernel_rfl, lS_ok ht hrow⟩
  obtain ⟨r, h', rfl, hc⟩ := of_callN (callL_good hmix noSp hall (un := 10) 20) (f := 68) (args := [stD l, .func 69 [] [.tp (tsL tt)]]) (h := ⟨0, []⟩) (K := fun r _ => r = .ret (.bool (anyS l tt))) (by
    refine cast (Sf_ev l tt _).symm ?_
    refine ⟨fitP_self rfl, hn, fun h => by rw [h]; rfl, fun h i => by rw [h, decide_eq_true (by omega)]⟩)
  exact ⟨h', hc⟩
end
end Go.Sx.Bln

/- blend: valid stocks and a taste, evaluated. -/

namespace Go.Sx.Bln
open Go Go.Sx Go.Proofs
set_option maxRecDepth 1000000

def cfS : FuncId × Spec1 := (68, fun _ args h K => match args with
  | [x, .func 69 [] [c]] => ∃ (l : List Stk) (t : Tst), isD h 3 x (stD l) ∧ isD h 2 c (.tp (tsL t)) ∧ (l.length ≤ 6 ∧ t.T.length ≤ 4) ∧ K (.ret (.bool (anyS l t))) h
  | _ => False)
theorem as_ev (l : List Stk) (t : Tst) (Q : VRes → Prop) : callN Try.prog (tabS [taT, cfS]) noL 10 20 0 (.fn 38) [stD l, .agg (tsL t)] ⟨0, []⟩ (fun r _ => Q r) =
  (∃ (t_1 : Tst), isD (VH.mk (0 + 1) [(0, VB.cells [VV.tl t.T.length 1 (dG t.T), I t.far, I t.least] 25)]) 2 (VV.agg [VV.tl t.T.length 1 (dG t.T), I t.far, I t.least]) (VV.agg (tsL t_1)) ∧ bif okT t_1 then
 bif decide ((↑l.length : Int) ≤ (6 : Int)) then
 ∃ (l_1 : List Stk) (t_2 : Tst), isD (VH.mk (0 + 1) [(0, VB.cells [VV.tl t.T.length 1 (dG t.T), I t.far, I t.least] 25)]) 3 (VV.tl l.length 5 (stG l)) (stD l_1) ∧ isD (VH.mk (0 + 1) [(0, VB.cells [VV.tl t.T.length 1 (dG t.T), I t.far, I t.least] 25)]) 2 (VV.ptr (VA.own 0 0)) (VV.tp (tsL t_2)) ∧ (l_1.length ≤ 6 ∧ t_2.T.length ≤ 4) ∧ Q (VRes.ret (VV.bool !anyS l_1 t_2))
 else Q (VRes.ret (VV.bool false))
 else Q (VRes.ret (VV.bool false))) := by kernel_rfl

end Go.Sx.Bln

/- blend: valid stocks and a taste. -/

namespace Go.Sx.Bln
open Go Go.Sx Go.Proofs
set_option maxRecDepth 1000000

theorem rowS_ok : SpOk Try.prog rowS.1 rowS.2 := by
  intro lock args h K hK
  simp only [rowS] at hK
  split at hK
  · obtain ⟨s, t, rfl, rfl, ht, hK⟩ := hK
    obtain ⟨h', hc⟩ := stock_v s t ht
    exact ⟨_, h, hK, lockP_refl _ _, calls_lendDP 2 hc rfl ⟨⟨⟨rfl, rfl⟩, ⟨rfl, rfl⟩, ⟨rfl, rfl⟩, ⟨rfl, rfl⟩, ⟨rfl, rfl, fun _ _ => rfl⟩, trivial⟩, rfl, trivial⟩⟩
  · exact hK.elim
theorem cfS_ok : SpOk Try.prog cfS.1 cfS.2 := by
  intro lock args h K hK
  simp only [cfS] at hK
  split at hK
  · obtain ⟨l, t, hx, hc, ⟨h1, h2⟩, hK⟩ := hK
    obtain ⟨h', hv⟩ := anyS_v (l := l) h2 rowS_ok (by omega)
    exact ⟨_, h, hK, lockP_refl _ _, calls_lendDP 3 hv rfl ⟨hx, ⟨rfl, trivial, hc, trivial⟩, trivial⟩⟩
  · exact hK.elim
def okAll (l : List Stk) (t : Tst) : Bool := okT t && decide (l.length ≤ 6) && !anyS l t
theorem stocks_v (l : List Stk) (t : Tst) : ∃ h', CallsV Try.prog 38 [stD l, .agg (tsL t)] ⟨0, []⟩ (.ret (.bool (okAll l t))) h' := by
  obtain ⟨r, h', rfl, hc⟩ := of_callN (noL_good (tab_ok [taT, cfS] (fun x hx => by
    simp only [List.mem_cons, List.not_mem_nil, or_false] at hx
    rcases hx with rfl | rfl
    · exact taT_ok
    · exact cfS_ok))) (f := 38) (args := [stD l, .agg (tsL t)]) (h := ⟨0, []⟩) (K := fun r _ => r = .ret (.bool (okAll l t))) (by
    refine cast (as_ev l t _).symm ⟨t, ⟨⟨rfl, rfl, fun _ _ => rfl⟩, ⟨rfl, rfl⟩, ⟨rfl, rfl⟩, trivial⟩, ?_⟩
    unfold okAll
    refine cond_i (fun h1 => cond_d (fun h2 => ?_) (fun h2 => ?_)) (fun h1 => by rw [h1]; rfl)
    · refine ⟨l, t, ⟨rfl, rfl, fun _ _ => rfl⟩, ⟨_, _, rfl, ⟨rfl, rfl, fun _ _ => rfl⟩, ⟨rfl, rfl⟩, ⟨rfl, rfl⟩, trivial⟩, ⟨by omega, ?_⟩, ?_⟩
      · unfold okT at h1
        simp only [Bool.and_eq_true, decide_eq_true_eq] at h1
        omega
      · rw [h1, decide_eq_true (show l.length ≤ 6 by omega)]; rfl
    · rw [decide_eq_false (show ¬ l.length ≤ 6 by omega), Bool.and_false]; rfl)
  exact ⟨h', hc⟩

/-- Are stocks valid, as a row. -/
def asT : FuncId × Spec1 := (38, fun _ args h K => match args with
  | [x, y] => ∃ (l : List Stk) (t : Tst), isD h 2 x (stD l) ∧ isD h 2 y (.agg (tsL t)) ∧ K (.ret (.bool (okAll l t))) h
  | _ => False)
theorem asT_ok : SpOk Try.prog asT.1 asT.2 := by
  intro lock args h K hK
  simp only [asT] at hK
  split at hK
  · obtain ⟨l, t, hx, hy, hK⟩ := hK
    obtain ⟨h', hc⟩ := stocks_v l t
    exact ⟨_, h, hK, lockP_refl _ _, calls_lendDP 2 hc rfl ⟨hx, hy, trivial⟩⟩
  · exact hK.elim
end Go.Sx.Bln

/- blend: choices and sums. -/

namespace Go.Sx.Bln
open Go Go.Sx Go.Proofs
set_option maxRecDepth 100000

/-- A choice: six numbers. -/
abbrev ch (n : Nat → Int) : List Int := [n 0, n 1, n 2, n 3, n 4, n 5]
def nL (n : Nat → Int) : List VV := [I (n 0), I (n 1), I (n 2), I (n 3), I (n 4), I (n 5)]
theorem ch_get {n : Nat → Int} : ∀ {i : Nat}, i < 6 → (ch n).getD i 0 = n i
  | 0, _ => rfl
  | 1, _ => rfl
  | 2, _ => rfl
  | 3, _ => rfl
  | 4, _ => rfl
  | 5, _ => rfl
  | _ + 6, h => by omega
def nB (n : Nat → Int) : Prop := ∀ i, i < 6 → 0 ≤ n i ∧ n i ≤ 6
def stB (s : Stk) : Prop := (0 ≤ s.casks ∧ s.casks ≤ 6) ∧ (1 ≤ s.vol ∧ s.vol ≤ 65536) ∧ (0 ≤ s.age ∧ s.age ≤ 100) ∧ (0 ≤ s.cost ∧ s.cost ≤ 1048576)
def lB (l : List Stk) : Prop := l.length ≤ 6 ∧ ∀ i, i < l.length → stB (l.getD i k0)
def pB (l : List Stk) (m : Nat) : Prop := ∀ i, i < l.length → (l.getD i k0).prof.length = m ∧ ∀ k, k < m → 0 ≤ ((l.getD i k0).prof.getD k s0).lo ∧ ((l.getD i k0).prof.getD k s0).lo ≤ ((l.getD i k0).prof.getD k s0).hi ∧ ((l.getD i k0).prof.getD k s0).hi ≤ 1000

def sumF (f : Nat → Int) : Nat → Int
  | 0 => 0
  | k + 1 => sumF f k + f k
theorem sumF_bd {f : Nat → Int} {M : Int} : ∀ k : Nat, (∀ i, i < k → 0 ≤ f i ∧ f i ≤ M) → 0 ≤ sumF f k ∧ sumF f k ≤ k * M
  | 0, _ => by simp [sumF]
  | k + 1, h => by
    obtain ⟨h1, h2⟩ := sumF_bd (M := M) k (fun i hi => h i (by omega))
    obtain ⟨h3, h4⟩ := h k (by omega)
    unfold sumF
    have e : ((k + 1 : Nat) : Int) * M = (k : Int) * M + M := by rw [Int.natCast_add, Int.add_mul]; simp
    rw [e]
    omega

theorem mul_bd {a b A B : Int} (h1 : 0 ≤ a ∧ a ≤ A) (h2 : 0 ≤ b ∧ b ≤ B) : 0 ≤ a * b ∧ a * b ≤ A * B := ⟨Int.mul_nonneg h1.1 h2.1, by
  calc a * b ≤ A * b := Int.mul_le_mul_of_nonneg_right h1.2 h2.1
    _ ≤ A * B := Int.mul_le_mul_of_nonneg_left h2.2 (by omega)⟩

/-- What valid stocks are like. -/
theorem okAll_l {l : List Stk} {t : Tst} (h : okAll l t = true) : lB l ∧ pB l t.T.length ∧ okT t = true ∧ 1 ≤ t.T.length ∧ t.T.length ≤ 4 := by
  unfold okAll at h
  simp only [Bool.and_eq_true, decide_eq_true_eq, Bool.not_eq_true'] at h
  obtain ⟨⟨h1, h2⟩, h3⟩ := h
  have hs : ∀ i, i < l.length → okS t (l.getD i k0) = true := fun i hi => by
    unfold anyS at h3
    rw [List.any_eq_false] at h3
    have := h3 i (List.mem_range.2 hi)
    unfold qS at this
    simpa using this
  have h4 := h1
  unfold okT at h4
  simp only [Bool.and_eq_true, decide_eq_true_eq, Bool.not_eq_true'] at h4
  refine ⟨⟨h2, fun i hi => ?_⟩, fun i hi => ?_, h1, h4.1.1.1.1, h4.1.1.1.2⟩
  · have := hs i hi
    unfold okS at this
    simp only [Bool.and_eq_true, decide_eq_true_eq] at this
    obtain ⟨⟨a, b, c, d, _⟩, _⟩ := this
    exact ⟨a, b, c, d⟩
  · have := hs i hi
    unfold okS at this
    simp only [Bool.and_eq_true, decide_eq_true_eq, Bool.not_eq_true'] at this
    obtain ⟨⟨_, _, _, _, hl⟩, hp⟩ := this
    refine ⟨hl, fun k hk => ?_⟩
    unfold anyP at hp
    rw [List.any_eq_false] at hp
    have := hp k (List.mem_range.2 (by omega))
    unfold qP okP at this
    simpa using this

/-! The terms. -/
abbrev tmV (l : List Stk) (n : Nat → Int) (i : Nat) : Int := n i * (l.getD i k0).vol
abbrev tmC (l : List Stk) (n : Nat → Int) (i : Nat) : Int := n i * (l.getD i k0).cost
abbrev tmL (l : List Stk) (n : Nat → Int) (k i : Nat) : Int := n i * (l.getD i k0).vol * ((l.getD i k0).prof.getD k s0).lo
abbrev tmH (l : List Stk) (n : Nat → Int) (k i : Nat) : Int := n i * (l.getD i k0).vol * ((l.getD i k0).prof.getD k s0).hi
end Go.Sx.Bln

/- blend: sum with closure 87, evaluated. -/

namespace Go.Sx.Bln
open Go Go.Sx Go.Proofs
set_option maxRecDepth 1000000

def cloSV (l : List Stk) (n : Nat → Int) : VV := .func 87 [] [.tp (nL n)]
def dsSV : List Nat := [9, 8, 7, 4, 0, 1]
def VSV (l : List Stk) (n : Nat → Int) (i a : Int) : List VV := [I i, I l.length, stD l, I a, stD l, cloSV l n]
theorem SV_ev (l : List Stk) (n : Nat → Int) (i a : Int) (X : VEx → List VV → List VB → Prop) : codeE Try.prog (callN Try.prog noSpec noL 10 20) (fun _ => none) true 10 22 0 (loopB 0 (bodyOf Try.prog 64)) (dsSV.zip (VSV l n i a)) ⟨0, ([] : List Nat).zip []⟩ (obs 0 dsSV [] X) =
  (bif decide (i < (↑l.length : Int)) then
 bif decide ((0 : Int) ≤ i ∧ i < (↑l.length : Int)) then
 bif decide ((0 : Int) ≤ i ∧ i < (↑6 : Int)) then
 bif inK IntKind.i64 ([n 0, n 1, n 2, n 3, n 4, n 5].getD i.toNat (0 : Int) * (l.getD i.toNat k0).vol) then
 bif inK IntKind.i64 (a + [n 0, n 1, n 2, n 3, n 4, n 5].getD i.toNat (0 : Int) * (l.getD i.toNat k0).vol) then
 bif inK IntKind.i64 (i + (1 : Int)) then
 X VEx.normal [I (i + (1 : Int)), I (↑l.length : Int), VV.tl l.length 5 (stG l), I (a + [n 0, n 1, n 2, n 3, n 4, n 5].getD i.toNat (0 : Int) * (l.getD i.toNat k0).vol), VV.tl l.length 5 (stG l), VV.func (87 : FuncId) [] [VV.tp [I (n 0), I (n 1), I (n 2), I (n 3), I (n 4), I (n 5)]]] []
 else False
 else False
 else False
 else False
 else False
 else X (VEx.exit 0) [I i, I (↑l.length : Int), VV.tl l.length 5 (stG l), I a, VV.tl l.length 5 (stG l), VV.func (87 : FuncId) [] [VV.tp [I (n 0), I (n 1), I (n 2), I (n 3), I (n 4), I (n 5)]]] []) := by kernel_rfl

def lSV (l : List Stk) (n : Nat → Int) : LT := fun lock t h K =>
  FitP lock h t ⟨0, ([] : List Nat).zip []⟩ (dsSV.zip (VSV l n 0 0)) ∧ (nB n ∧ lB l) ∧ K .normal (dsSV.zip (VSV l n l.length (sumF (tmV l n) l.length))) ⟨0, ([] : List Nat).zip []⟩
theorem SVf_ev (l : List Stk) (n : Nat → Int) (Q : VRes → Prop) : callN Try.prog noSpec (atF 64 [(0, lSV l n)]) 10 20 0 (.fn 64) [stD l, cloSV l n] ⟨0, []⟩ (fun r _ => Q r) =
  (FitP 0 (VH.mk 0 ([].zip [])) (dsSV.zip (VSV l n (0 : Int) (0 : Int))) (VH.mk 0 ([].zip [])) (dsSV.zip (VSV l n (0 : Int) (0 : Int))) ∧ (nB n ∧ lB l) ∧ Q (VRes.ret (I (sumF (tmV l n) l.length)))) := by kernel_rfl

end Go.Sx.Bln

/- blend: sum with closure 87. -/

namespace Go.Sx.Bln
open Go Go.Sx Go.Proofs
set_option maxRecDepth 1000000

section
variable {l : List Stk} {n : Nat → Int}

theorem bdSV (h : nB n ∧ lB l) {i : Nat} (hi : i < l.length) : 0 ≤ (tmV l n) i ∧ (tmV l n) i ≤ 6 * 65536 := by
  obtain ⟨hn, hl⟩ := h
  have h1 := hn i (by have := hl.1; omega)
  obtain ⟨h2, h3, h4, h5⟩ := hl.2 i hi

  exact mul_bd h1 (show 0 ≤ (l.getD i k0).vol ∧ (l.getD i k0).vol ≤ 65536 by omega)

theorem lSV_ok : LSound Try.prog true (.block 0 (.loop (loopB 0 (bodyOf Try.prog 64)))) 22 (lSV l n) := by
  by_cases hh : nB n ∧ lB l
  · have hh2 := hh
    obtain ⟨hn, hl⟩ := hh2
    have hl6 := hl.1
    refine loop_row hmix good0 (un := 10) (ds := dsSV) (ns := []) (nx := 0) (fun i : Nat => VSV l n i (sumF (tmV l n) i)) (fun _ => []) (fun i => i ≤ l.length) (fun i => l.length - i) (fun _ e vs bs => e = .exit 0 ∧ bs = [] ∧ vs = VSV l n l.length (sumF (tmV l n) l.length)) noL_ok ?_ ?_
    · rintro i h0
      refine cast (SV_ev l n i _ _).symm ?_
      by_cases hlt : i < l.length
      · have hb := sumF_bd (f := tmV l n) (M := 6 * 65536) i (fun j hj => bdSV hh (by omega))
        have hc := bdSV hh hlt
        have hi6 : ((i : Nat) : Int) * (6 * 65536) ≤ 6 * (6 * 65536) := Int.mul_le_mul_of_nonneg_right (by omega) (by decide)
        have h1 := hn i (by omega)
        obtain ⟨h2, h3, h4, h5⟩ := hl.2 i hlt
        have hs : sumF (tmV l n) (i + 1) = sumF (tmV l n) i + (tmV l n) i := rfl
        refine cond_dk (by omega) (cond_dk ⟨by omega, by omega⟩ ?_)
        rw [show (i : Int).toNat = i by omega, ch_get (by omega)]

        unfold tmV at hc
        refine cond_dk ⟨by omega, by omega⟩ (cond_r (by omega) ?_)
        refine cond_r (by omega) (cond_r (by omega) ⟨i + 1, by omega, by dsimp only; omega, ?_, fitBs_refl _, fun _ _ _ h => h⟩)
        dsimp only
        rw [hs]
        rfl
      · obtain rfl : i = l.length := by omega
        exact cond_d (fun h => by omega) (fun _ => ⟨rfl, rfl, rfl⟩)
    · rintro lock t h K ⟨hf, _, k1⟩
      refine ⟨0, hf, Nat.zero_le _, ?_⟩
      rintro e vs bs ⟨rfl, rfl, rfl⟩
      exact k1
  · rintro lock t h K ⟨hf, hc, _⟩
    exact (hh hc).elim

theorem sumSV_v (hh : nB n ∧ lB l) : ∃ h', CallsV Try.prog 64 [stD l, cloSV l n] ⟨0, []⟩ (.ret (I (sumF (tmV l n) l.length))) h' := by
  have hall : LoopsOk Try.prog 64 [(0, lSV l n)] := fun x hx => by
    simp only [List.mem_singleton] at hx
    subst hx
    exact ⟨by kernel_rfl, lSV_ok⟩
  obtain ⟨r, h', rfl, hc⟩ := of_callN (callL_good hmix noSp hall (un := 10) 20) (f := 64) (args := [stD l, cloSV l n]) (h := ⟨0, []⟩) (K := fun r _ => r = .ret (I (sumF (tmV l n) l.length))) (by
    refine cast (SVf_ev l n _).symm ?_
    exact ⟨fitP_self rfl, hh, rfl⟩)
  exact ⟨h', hc⟩
end
end Go.Sx.Bln

/- blend: sum with closure 77, evaluated. -/

namespace Go.Sx.Bln
open Go Go.Sx Go.Proofs
set_option maxRecDepth 1000000

def cloSC (l : List Stk) (n : Nat → Int) : VV := .func 77 [] [.tp (nL n)]
def dsSC : List Nat := [9, 8, 7, 4, 0, 1]
def VSC (l : List Stk) (n : Nat → Int) (i a : Int) : List VV := [I i, I l.length, stD l, I a, stD l, cloSC l n]
theorem SC_ev (l : List Stk) (n : Nat → Int) (i a : Int) (X : VEx → List VV → List VB → Prop) : codeE Try.prog (callN Try.prog noSpec noL 10 20) (fun _ => none) true 10 22 0 (loopB 0 (bodyOf Try.prog 64)) (dsSC.zip (VSC l n i a)) ⟨0, ([] : List Nat).zip []⟩ (obs 0 dsSC [] X) =
  (bif decide (i < (↑l.length : Int)) then
 bif decide ((0 : Int) ≤ i ∧ i < (↑l.length : Int)) then
 bif decide ((0 : Int) ≤ i ∧ i < (↑6 : Int)) then
 bif inK IntKind.i64 ([n 0, n 1, n 2, n 3, n 4, n 5].getD i.toNat (0 : Int) * (l.getD i.toNat k0).cost) then
 bif inK IntKind.i64 (a + [n 0, n 1, n 2, n 3, n 4, n 5].getD i.toNat (0 : Int) * (l.getD i.toNat k0).cost) then
 bif inK IntKind.i64 (i + (1 : Int)) then
 X VEx.normal [I (i + (1 : Int)), I (↑l.length : Int), VV.tl l.length 5 (stG l), I (a + [n 0, n 1, n 2, n 3, n 4, n 5].getD i.toNat (0 : Int) * (l.getD i.toNat k0).cost), VV.tl l.length 5 (stG l), VV.func (77 : FuncId) [] [VV.tp [I (n 0), I (n 1), I (n 2), I (n 3), I (n 4), I (n 5)]]] []
 else False
 else False
 else False
 else False
 else False
 else X (VEx.exit 0) [I i, I (↑l.length : Int), VV.tl l.length 5 (stG l), I a, VV.tl l.length 5 (stG l), VV.func (77 : FuncId) [] [VV.tp [I (n 0), I (n 1), I (n 2), I (n 3), I (n 4), I (n 5)]]] []) := by kernel_rfl

def lSC (l : List Stk) (n : Nat → Int) : LT := fun lock t h K =>
  FitP lock h t ⟨0, ([] : List Nat).zip []⟩ (dsSC.zip (VSC l n 0 0)) ∧ (nB n ∧ lB l) ∧ K .normal (dsSC.zip (VSC l n l.length (sumF (tmC l n) l.length))) ⟨0, ([] : List Nat).zip []⟩
theorem SCf_ev (l : List Stk) (n : Nat → Int) (Q : VRes → Prop) : callN Try.prog noSpec (atF 64 [(0, lSC l n)]) 10 20 0 (.fn 64) [stD l, cloSC l n] ⟨0, []⟩ (fun r _ => Q r) =
  (FitP 0 (VH.mk 0 ([].zip [])) (dsSC.zip (VSC l n (0 : Int) (0 : Int))) (VH.mk 0 ([].zip [])) (dsSC.zip (VSC l n (0 : Int) (0 : Int))) ∧ (nB n ∧ lB l) ∧ Q (VRes.ret (I (sumF (tmC l n) l.length)))) := by kernel_rfl

end Go.Sx.Bln

/- blend: sum with closure 77. -/

namespace Go.Sx.Bln
open Go Go.Sx Go.Proofs
set_option maxRecDepth 1000000

section
variable {l : List Stk} {n : Nat → Int}

theorem bdSC (h : nB n ∧ lB l) {i : Nat} (hi : i < l.length) : 0 ≤ (tmC l n) i ∧ (tmC l n) i ≤ 6 * 1048576 := by
  obtain ⟨hn, hl⟩ := h
  have h1 := hn i (by have := hl.1; omega)
  obtain ⟨h2, h3, h4, h5⟩ := hl.2 i hi

  exact mul_bd h1 (show 0 ≤ (l.getD i k0).cost ∧ (l.getD i k0).cost ≤ 1048576 by omega)

theorem lSC_ok : LSound Try.prog true (.block 0 (.loop (loopB 0 (bodyOf Try.prog 64)))) 22 (lSC l n) := by
  by_cases hh : nB n ∧ lB l
  · have hh2 := hh
    obtain ⟨hn, hl⟩ := hh2
    have hl6 := hl.1
    refine loop_row hmix good0 (un := 10) (ds := dsSC) (ns := []) (nx := 0) (fun i : Nat => VSC l n i (sumF (tmC l n) i)) (fun _ => []) (fun i => i ≤ l.length) (fun i => l.length - i) (fun _ e vs bs => e = .exit 0 ∧ bs = [] ∧ vs = VSC l n l.length (sumF (tmC l n) l.length)) noL_ok ?_ ?_
    · rintro i h0
      refine cast (SC_ev l n i _ _).symm ?_
      by_cases hlt : i < l.length
      · have hb := sumF_bd (f := tmC l n) (M := 6 * 1048576) i (fun j hj => bdSC hh (by omega))
        have hc := bdSC hh hlt
        have hi6 : ((i : Nat) : Int) * (6 * 1048576) ≤ 6 * (6 * 1048576) := Int.mul_le_mul_of_nonneg_right (by omega) (by decide)
        have h1 := hn i (by omega)
        obtain ⟨h2, h3, h4, h5⟩ := hl.2 i hlt
        have hs : sumF (tmC l n) (i + 1) = sumF (tmC l n) i + (tmC l n) i := rfl
        refine cond_dk (by omega) (cond_dk ⟨by omega, by omega⟩ ?_)
        rw [show (i : Int).toNat = i by omega, ch_get (by omega)]

        unfold tmC at hc
        refine cond_dk ⟨by omega, by omega⟩ (cond_r (by omega) ?_)
        refine cond_r (by omega) (cond_r (by omega) ⟨i + 1, by omega, by dsimp only; omega, ?_, fitBs_refl _, fun _ _ _ h => h⟩)
        dsimp only
        rw [hs]
        rfl
      · obtain rfl : i = l.length := by omega
        exact cond_d (fun h => by omega) (fun _ => ⟨rfl, rfl, rfl⟩)
    · rintro lock t h K ⟨hf, _, k1⟩
      refine ⟨0, hf, Nat.zero_le _, ?_⟩
      rintro e vs bs ⟨rfl, rfl, rfl⟩
      exact k1
  · rintro lock t h K ⟨hf, hc, _⟩
    exact (hh hc).elim

theorem sumSC_v (hh : nB n ∧ lB l) : ∃ h', CallsV Try.prog 64 [stD l, cloSC l n] ⟨0, []⟩ (.ret (I (sumF (tmC l n) l.length))) h' := by
  have hall : LoopsOk Try.prog 64 [(0, lSC l n)] := fun x hx => by
    simp only [List.mem_singleton] at hx
    subst hx
    exact ⟨by kernel_rfl, lSC_ok⟩
  obtain ⟨r, h', rfl, hc⟩ := of_callN (callL_good hmix noSp hall (un := 10) 20) (f := 64) (args := [stD l, cloSC l n]) (h := ⟨0, []⟩) (K := fun r _ => r = .ret (I (sumF (tmC l n) l.length))) (by
    refine cast (SCf_ev l n _).symm ?_
    exact ⟨fitP_self rfl, hh, rfl⟩)
  exact ⟨h', hc⟩
end
end Go.Sx.Bln

/- blend: sum with closure 88, evaluated. -/

namespace Go.Sx.Bln
open Go Go.Sx Go.Proofs
set_option maxRecDepth 1000000

def cloSL (l : List Stk) (n : Nat → Int) (k : Nat) : VV := .func 88 [] [.tp (nL n), .tp [I k]]
def dsSL : List Nat := [9, 8, 7, 4, 0, 1]
def VSL (l : List Stk) (n : Nat → Int) (k : Nat) (i a : Int) : List VV := [I i, I l.length, stD l, I a, stD l, cloSL l n k]
theorem SL_ev (l : List Stk) (n : Nat → Int) (k : Nat) (i a : Int) (X : VEx → List VV → List VB → Prop) : codeE Try.prog (callN Try.prog noSpec noL 10 20) (fun _ => none) true 10 22 0 (loopB 0 (bodyOf Try.prog 64)) (dsSL.zip (VSL l n k i a)) ⟨0, ([] : List Nat).zip []⟩ (obs 0 dsSL [] X) =
  (bif decide (i < (↑l.length : Int)) then
 bif decide ((0 : Int) ≤ i ∧ i < (↑l.length : Int)) then
 bif decide ((0 : Int) ≤ i ∧ i < (↑6 : Int)) then
 bif inK IntKind.i64 ([n 0, n 1, n 2, n 3, n 4, n 5].getD i.toNat (0 : Int) * (l.getD i.toNat k0).vol) then
 bif decide ((0 : Int) ≤ (↑k : Int) ∧ (↑k : Int) < (↑(l.getD i.toNat k0).prof.length : Int)) then
 bif inK IntKind.i64 ([n 0, n 1, n 2, n 3, n 4, n 5].getD i.toNat (0 : Int) * (l.getD i.toNat k0).vol * ((l.getD i.toNat k0).prof.getD (↑k : Int).toNat s0).lo) then
 bif inK IntKind.i64 (a + [n 0, n 1, n 2, n 3, n 4, n 5].getD i.toNat (0 : Int) * (l.getD i.toNat k0).vol * ((l.getD i.toNat k0).prof.getD (↑k : Int).toNat s0).lo) then
 bif inK IntKind.i64 (i + (1 : Int)) then
 X VEx.normal [I (i + (1 : Int)), I (↑l.length : Int), VV.tl l.length 5 (stG l), I (a + [n 0, n 1, n 2, n 3, n 4, n 5].getD i.toNat (0 : Int) * (l.getD i.toNat k0).vol * ((l.getD i.toNat k0).prof.getD (↑k : Int).toNat s0).lo), VV.tl l.length 5 (stG l), VV.func (88 : FuncId) [] [VV.tp [I (n 0), I (n 1), I (n 2), I (n 3), I (n 4), I (n 5)], VV.tp [I (↑k : Int)]]] []
 else False
 else False
 else False
 else False
 else False
 else False
 else False
 else X (VEx.exit 0) [I i, I (↑l.length : Int), VV.tl l.length 5 (stG l), I a, VV.tl l.length 5 (stG l), VV.func (88 : FuncId) [] [VV.tp [I (n 0), I (n 1), I (n 2), I (n 3), I (n 4), I (n 5)], VV.tp [I (↑k : Int)]]] []) := by kernel_rfl

def lSL (l : List Stk) (n : Nat → Int) (k : Nat) : LT := fun lock t h K =>
  FitP lock h t ⟨0, ([] : List Nat).zip []⟩ (dsSL.zip (VSL l n k 0 0)) ∧ (nB n ∧ lB l ∧ ∃ m, pB l m ∧ k < m) ∧ K .normal (dsSL.zip (VSL l n k l.length (sumF (tmL l n k) l.length))) ⟨0, ([] : List Nat).zip []⟩
theorem SLf_ev (l : List Stk) (n : Nat → Int) (k : Nat) (Q : VRes → Prop) : callN Try.prog noSpec (atF 64 [(0, lSL l n k)]) 10 20 0 (.fn 64) [stD l, cloSL l n k] ⟨0, []⟩ (fun r _ => Q r) =
  (FitP 0 (VH.mk 0 ([].zip [])) (dsSL.zip (VSL l n k (0 : Int) (0 : Int))) (VH.mk 0 ([].zip [])) (dsSL.zip (VSL l n k (0 : Int) (0 : Int))) ∧ (nB n ∧ lB l ∧ ∃ m, pB l m ∧ k < m) ∧ Q (VRes.ret (I (sumF (tmL l n k) l.length)))) := by kernel_rfl

end Go.Sx.Bln

/- blend: sum with closure 88. -/

namespace Go.Sx.Bln
open Go Go.Sx Go.Proofs
set_option maxRecDepth 1000000

section
variable {l : List Stk} {n : Nat → Int} {k : Nat}

theorem bdSL (h : nB n ∧ lB l ∧ ∃ m, pB l m ∧ k < m) {i : Nat} (hi : i < l.length) : 0 ≤ (tmL l n k) i ∧ (tmL l n k) i ≤ 6 * 65536 * 1000 := by
  obtain ⟨hn, hl, m, hp, hk⟩ := h
  have h1 := hn i (by have := hl.1; omega)
  obtain ⟨h2, h3, h4, h5⟩ := hl.2 i hi
  obtain ⟨p1, p2⟩ := hp i hi
  obtain ⟨p3, p4, p5⟩ := p2 k hk
  exact mul_bd (mul_bd h1 (show 0 ≤ (l.getD i k0).vol ∧ (l.getD i k0).vol ≤ 65536 by omega)) (show 0 ≤ ((l.getD i k0).prof.getD k s0).lo ∧ ((l.getD i k0).prof.getD k s0).lo ≤ 1000 by omega)

theorem lSL_ok : LSound Try.prog true (.block 0 (.loop (loopB 0 (bodyOf Try.prog 64)))) 22 (lSL l n k) := by
  by_cases hh : nB n ∧ lB l ∧ ∃ m, pB l m ∧ k < m
  · have hh2 := hh
    obtain ⟨hn, hl, m, hp, hkm⟩ := hh2
    have hl6 := hl.1
    refine loop_row hmix good0 (un := 10) (ds := dsSL) (ns := []) (nx := 0) (fun i : Nat => VSL l n k i (sumF (tmL l n k) i)) (fun _ => []) (fun i => i ≤ l.length) (fun i => l.length - i) (fun _ e vs bs => e = .exit 0 ∧ bs = [] ∧ vs = VSL l n k l.length (sumF (tmL l n k) l.length)) noL_ok ?_ ?_
    · rintro i h0
      refine cast (SL_ev l n k i _ _).symm ?_
      by_cases hlt : i < l.length
      · have hb := sumF_bd (f := tmL l n k) (M := 6 * 65536 * 1000) i (fun j hj => bdSL hh (by omega))
        have hc := bdSL hh hlt
        have hi6 : ((i : Nat) : Int) * (6 * 65536 * 1000) ≤ 6 * (6 * 65536 * 1000) := Int.mul_le_mul_of_nonneg_right (by omega) (by decide)
        have h1 := hn i (by omega)
        obtain ⟨h2, h3, h4, h5⟩ := hl.2 i hlt
        have hs : sumF (tmL l n k) (i + 1) = sumF (tmL l n k) i + (tmL l n k) i := rfl
        refine cond_dk (by omega) (cond_dk ⟨by omega, by omega⟩ ?_)
        rw [show (i : Int).toNat = i by omega, ch_get (by omega), show ((k : Nat) : Int).toNat = k by omega]
        obtain ⟨p1, p2⟩ := hp i hlt
        obtain ⟨p3, p4, p5⟩ := p2 k hkm
        have hm1 := mul_bd h1 (show 0 ≤ (l.getD i k0).vol ∧ (l.getD i k0).vol ≤ 65536 by omega)
        unfold tmL at hc
        refine cond_dk ⟨by omega, by omega⟩ (cond_r (by omega) (cond_dk ⟨by omega, by omega⟩ (cond_r (by omega) ?_)))
        refine cond_r (by omega) (cond_r (by omega) ⟨i + 1, by omega, by dsimp only; omega, ?_, fitBs_refl _, fun _ _ _ h => h⟩)
        dsimp only
        rw [hs]
        rfl
      · obtain rfl : i = l.length := by omega
        exact cond_d (fun h => by omega) (fun _ => ⟨rfl, rfl, rfl⟩)
    · rintro lock t h K ⟨hf, _, k1⟩
      refine ⟨0, hf, Nat.zero_le _, ?_⟩
      rintro e vs bs ⟨rfl, rfl, rfl⟩
      exact k1
  · rintro lock t h K ⟨hf, hc, _⟩
    exact (hh hc).elim

theorem sumSL_v (hh : nB n ∧ lB l ∧ ∃ m, pB l m ∧ k < m) : ∃ h', CallsV Try.prog 64 [stD l, cloSL l n k] ⟨0, []⟩ (.ret (I (sumF (tmL l n k) l.length))) h' := by
  have hall : LoopsOk Try.prog 64 [(0, lSL l n k)] := fun x hx => by
    simp only [List.mem_singleton] at hx
    subst hx
    exact ⟨by kernel_rfl, lSL_ok⟩
  obtain ⟨r, h', rfl, hc⟩ := of_callN (callL_good hmix noSp hall (un := 10) 20) (f := 64) (args := [stD l, cloSL l n k]) (h := ⟨0, []⟩) (K := fun r _ => r = .ret (I (sumF (tmL l n k) l.length))) (by
    refine cast (SLf_ev l n k _).symm ?_
    exact ⟨fitP_self rfl, hh, rfl⟩)
  exact ⟨h', hc⟩
end
end Go.Sx.Bln

/- blend: sum with closure 89, evaluated. -/

namespace Go.Sx.Bln
open Go Go.Sx Go.Proofs
set_option maxRecDepth 1000000

def cloSH (l : List Stk) (n : Nat → Int) (k : Nat) : VV := .func 89 [] [.tp (nL n), .tp [I k]]
def dsSH : List Nat := [9, 8, 7, 4, 0, 1]
def VSH (l : List Stk) (n : Nat → Int) (k : Nat) (i a : Int) : List VV := [I i, I l.length, stD l, I a, stD l, cloSH l n k]
theorem SH_ev (l : List Stk) (n : Nat → Int) (k : Nat) (i a : Int) (X : VEx → List VV → List VB → Prop) : codeE Try.prog (callN Try.prog noSpec noL 10 20) (fun _ => none) true 10 22 0 (loopB 0 (bodyOf Try.prog 64)) (dsSH.zip (VSH l n k i a)) ⟨0, ([] : List Nat).zip []⟩ (obs 0 dsSH [] X) =
  (bif decide (i < (↑l.length : Int)) then
 bif decide ((0 : Int) ≤ i ∧ i < (↑l.length : Int)) then
 bif decide ((0 : Int) ≤ i ∧ i < (↑6 : Int)) then
 bif inK IntKind.i64 ([n 0, n 1, n 2, n 3, n 4, n 5].getD i.toNat (0 : Int) * (l.getD i.toNat k0).vol) then
 bif decide ((0 : Int) ≤ (↑k : Int) ∧ (↑k : Int) < (↑(l.getD i.toNat k0).prof.length : Int)) then
 bif inK IntKind.i64 ([n 0, n 1, n 2, n 3, n 4, n 5].getD i.toNat (0 : Int) * (l.getD i.toNat k0).vol * ((l.getD i.toNat k0).prof.getD (↑k : Int).toNat s0).hi) then
 bif inK IntKind.i64 (a + [n 0, n 1, n 2, n 3, n 4, n 5].getD i.toNat (0 : Int) * (l.getD i.toNat k0).vol * ((l.getD i.toNat k0).prof.getD (↑k : Int).toNat s0).hi) then
 bif inK IntKind.i64 (i + (1 : Int)) then
 X VEx.normal [I (i + (1 : Int)), I (↑l.length : Int), VV.tl l.length 5 (stG l), I (a + [n 0, n 1, n 2, n 3, n 4, n 5].getD i.toNat (0 : Int) * (l.getD i.toNat k0).vol * ((l.getD i.toNat k0).prof.getD (↑k : Int).toNat s0).hi), VV.tl l.length 5 (stG l), VV.func (89 : FuncId) [] [VV.tp [I (n 0), I (n 1), I (n 2), I (n 3), I (n 4), I (n 5)], VV.tp [I (↑k : Int)]]] []
 else False
 else False
 else False
 else False
 else False
 else False
 else False
 else X (VEx.exit 0) [I i, I (↑l.length : Int), VV.tl l.length 5 (stG l), I a, VV.tl l.length 5 (stG l), VV.func (89 : FuncId) [] [VV.tp [I (n 0), I (n 1), I (n 2), I (n 3), I (n 4), I (n 5)], VV.tp [I (↑k : Int)]]] []) := by kernel_rfl

def lSH (l : List Stk) (n : Nat → Int) (k : Nat) : LT := fun lock t h K =>
  FitP lock h t ⟨0, ([] : List Nat).zip []⟩ (dsSH.zip (VSH l n k 0 0)) ∧ (nB n ∧ lB l ∧ ∃ m, pB l m ∧ k < m) ∧ K .normal (dsSH.zip (VSH l n k l.length (sumF (tmH l n k) l.length))) ⟨0, ([] : List Nat).zip []⟩
theorem SHf_ev (l : List Stk) (n : Nat → Int) (k : Nat) (Q : VRes → Prop) : callN Try.prog noSpec (atF 64 [(0, lSH l n k)]) 10 20 0 (.fn 64) [stD l, cloSH l n k] ⟨0, []⟩ (fun r _ => Q r) =
  (FitP 0 (VH.mk 0 ([].zip [])) (dsSH.zip (VSH l n k (0 : Int) (0 : Int))) (VH.mk 0 ([].zip [])) (dsSH.zip (VSH l n k (0 : Int) (0 : Int))) ∧ (nB n ∧ lB l ∧ ∃ m, pB l m ∧ k < m) ∧ Q (VRes.ret (I (sumF (tmH l n k) l.length)))) := by kernel_rfl

end Go.Sx.Bln

/- blend: sum with closure 89. -/

namespace Go.Sx.Bln
open Go Go.Sx Go.Proofs
set_option maxRecDepth 1000000

section
variable {l : List Stk} {n : Nat → Int} {k : Nat}

theorem bdSH (h : nB n ∧ lB l ∧ ∃ m, pB l m ∧ k < m) {i : Nat} (hi : i < l.length) : 0 ≤ (tmH l n k) i ∧ (tmH l n k) i ≤ 6 * 65536 * 1000 := by
  obtain ⟨hn, hl, m, hp, hk⟩ := h
  have h1 := hn i (by have := hl.1; omega)
  obtain ⟨h2, h3, h4, h5⟩ := hl.2 i hi
  obtain ⟨p1, p2⟩ := hp i hi
  obtain ⟨p3, p4, p5⟩ := p2 k hk
  exact mul_bd (mul_bd h1 (show 0 ≤ (l.getD i k0).vol ∧ (l.getD i k0).vol ≤ 65536 by omega)) (show 0 ≤ ((l.getD i k0).prof.getD k s0).hi ∧ ((l.getD i k0).prof.getD k s0).hi ≤ 1000 by omega)

theorem lSH_ok : LSound Try.prog true (.block 0 (.loop (loopB 0 (bodyOf Try.prog 64)))) 22 (lSH l n k) := by
  by_cases hh : nB n ∧ lB l ∧ ∃ m, pB l m ∧ k < m
  · have hh2 := hh
    obtain ⟨hn, hl, m, hp, hkm⟩ := hh2
    have hl6 := hl.1
    refine loop_row hmix good0 (un := 10) (ds := dsSH) (ns := []) (nx := 0) (fun i : Nat => VSH l n k i (sumF (tmH l n k) i)) (fun _ => []) (fun i => i ≤ l.length) (fun i => l.length - i) (fun _ e vs bs => e = .exit 0 ∧ bs = [] ∧ vs = VSH l n k l.length (sumF (tmH l n k) l.length)) noL_ok ?_ ?_
    · rintro i h0
      refine cast (SH_ev l n k i _ _).symm ?_
      by_cases hlt : i < l.length
      · have hb := sumF_bd (f := tmH l n k) (M := 6 * 65536 * 1000) i (fun j hj => bdSH hh (by omega))
        have hc := bdSH hh hlt
        have hi6 : ((i : Nat) : Int) * (6 * 65536 * 1000) ≤ 6 * (6 * 65536 * 1000) := Int.mul_le_mul_of_nonneg_right (by omega) (by decide)
        have h1 := hn i (by omega)
        obtain ⟨h2, h3, h4, h5⟩ := hl.2 i hlt
        have hs : sumF (tmH l n k) (i + 1) = sumF (tmH l n k) i + (tmH l n k) i := rfl
        refine cond_dk (by omega) (cond_dk ⟨by omega, by omega⟩ ?_)
        rw [show (i : Int).toNat = i by omega, ch_get (by omega), show ((k : Nat) : Int).toNat = k by omega]
        obtain ⟨p1, p2⟩ := hp i hlt
        obtain ⟨p3, p4, p5⟩ := p2 k hkm
        have hm1 := mul_bd h1 (show 0 ≤ (l.getD i k0).vol ∧ (l.getD i k0).vol ≤ 65536 by omega)
        unfold tmH at hc
        refine cond_dk ⟨by omega, by omega⟩ (cond_r (by omega) (cond_dk ⟨by omega, by omega⟩ (cond_r (by omega) ?_)))
        refine cond_r (by omega) (cond_r (by omega) ⟨i + 1, by omega, by dsimp only; omega, ?_, fitBs_refl _, fun _ _ _ h => h⟩)
        dsimp only
        rw [hs]
        rfl
      · obtain rfl : i = l.length := by omega
        exact cond_d (fun h => by omega) (fun _ => ⟨rfl, rfl, rfl⟩)
    · rintro lock t h K ⟨hf, _, k1⟩
      refine ⟨0, hf, Nat.zero_le _, ?_⟩
      rintro e vs bs ⟨rfl, rfl, rfl⟩
      exact k1
  · rintro lock t h K ⟨hf, hc, _⟩
    exact (hh hc).elim

theorem sumSH_v (hh : nB n ∧ lB l ∧ ∃ m, pB l m ∧ k < m) : ∃ h', CallsV Try.prog 64 [stD l, cloSH l n k] ⟨0, []⟩ (.ret (I (sumF (tmH l n k) l.length))) h' := by
  have hall : LoopsOk Try.prog 64 [(0, lSH l n k)] := fun x hx => by
    simp only [List.mem_singleton] at hx
    subst hx
    exact ⟨by kernel_rfl, lSH_ok⟩
  obtain ⟨r, h', rfl, hc⟩ := of_callN (callL_good hmix noSp hall (un := 10) 20) (f := 64) (args := [stD l, cloSH l n k]) (h := ⟨0, []⟩) (K := fun r _ => r = .ret (I (sumF (tmH l n k) l.length))) (by
    refine cast (SHf_ev l n k _).symm ?_
    exact ⟨fitP_self rfl, hh, rfl⟩)
  exact ⟨h', hc⟩
end
end Go.Sx.Bln

/- blend: volume, cost, notes, evaluated. -/

namespace Go.Sx.Bln
open Go Go.Sx Go.Proofs
set_option maxRecDepth 1000000

/-- Sums over stocks, as a row. -/
def smT : FuncId × Spec1 := (64, fun _ args h K => match args with
  | [x, .func 87 [] [c]] => ∃ (l : List Stk) (n : Nat → Int), isD h 3 x (stD l) ∧ isD h 2 c (.tp (nL n)) ∧ (nB n ∧ lB l) ∧ K (.ret (I (sumF (tmV l n) l.length))) h
  | [x, .func 77 [] [c]] => ∃ (l : List Stk) (n : Nat → Int), isD h 3 x (stD l) ∧ isD h 2 c (.tp (nL n)) ∧ (nB n ∧ lB l) ∧ K (.ret (I (sumF (tmC l n) l.length))) h
  | [x, .func 88 [] [c, d]] => ∃ (l : List Stk) (n : Nat → Int) (k : Nat), isD h 3 x (stD l) ∧ isD h 2 c (.tp (nL n)) ∧ isD h 2 d (.tp [I k]) ∧ (nB n ∧ lB l ∧ ∃ m, pB l m ∧ k < m) ∧ K (.ret (I (sumF (tmL l n k) l.length))) h
  | [x, .func 89 [] [c, d]] => ∃ (l : List Stk) (n : Nat → Int) (k : Nat), isD h 3 x (stD l) ∧ isD h 2 c (.tp (nL n)) ∧ isD h 2 d (.tp [I k]) ∧ (nB n ∧ lB l ∧ ∃ m, pB l m ∧ k < m) ∧ K (.ret (I (sumF (tmH l n k) l.length))) h
  | _ => False)
theorem vo_ev (l : List Stk) (t : Tst) (n : Nat → Int) (Q : VRes → Prop) : callN Try.prog (tabS [smT]) noL 10 20 0 (.fn 75) [.tp (stD l :: tsL t), .agg (nL n)] ⟨0, []⟩ (fun r h => Q r) =
  (∃ (l_1 : List Stk) (n_1 : Nat → Int), isD (VH.mk (0 + 1) [(0, VB.fam [] (6) (fun k => [n 0, n 1, n 2, n 3, n 4, n 5].getD k (0 : Int)) 80)]) 3 (VV.tl l.length 5 (stG l)) (stD l_1) ∧ isD (VH.mk (0 + 1) [(0, VB.fam [] (6) (fun k => [n 0, n 1, n 2, n 3, n 4, n 5].getD k (0 : Int)) 80)]) 2 (VV.ptr (VA.own 0 0)) (VV.tp (nL n_1)) ∧ (nB n_1 ∧ lB l_1) ∧ Q (VRes.ret (I (sumF (tmV l_1 n_1) l_1.length)))) := by kernel_rfl

theorem co_ev (l : List Stk) (t : Tst) (n : Nat → Int) (Q : VRes → Prop) : callN Try.prog (tabS [smT]) noL 10 20 0 (.fn 49) [.tp (stD l :: tsL t), .agg (nL n)] ⟨0, []⟩ (fun r h => Q r) =
  (∃ (l_1 : List Stk) (n_1 : Nat → Int), isD (VH.mk (0 + 1) [(0, VB.fam [] (6) (fun k => [n 0, n 1, n 2, n 3, n 4, n 5].getD k (0 : Int)) 80)]) 3 (VV.tl l.length 5 (stG l)) (stD l_1) ∧ isD (VH.mk (0 + 1) [(0, VB.fam [] (6) (fun k => [n 0, n 1, n 2, n 3, n 4, n 5].getD k (0 : Int)) 80)]) 2 (VV.ptr (VA.own 0 0)) (VV.tp (nL n_1)) ∧ (nB n_1 ∧ lB l_1) ∧ Q (VRes.ret (I (sumF (tmC l_1 n_1) l_1.length)))) := by kernel_rfl

theorem no_ev (l : List Stk) (t : Tst) (n : Nat → Int) (k : Nat) (Q : VRes → Prop) : callN Try.prog (tabS [smT]) noL 10 20 0 (.fn 80) [.tp (stD l :: tsL t), .agg (nL n), I k] ⟨0, []⟩ (fun r h => Q r) =
  (∃ (l_1 : List Stk) (n_1 : Nat → Int) (k_1 : Nat), isD (VH.mk (3) [(2, VB.cells [I 0, I 0] 34), (1, VB.cells [I (↑k : Int)] 3), (0, VB.fam [] (6) (fun k => [n 0, n 1, n 2, n 3, n 4, n 5].getD k (0 : Int)) 80)]) 3 (VV.tl l.length 5 (stG l)) (stD l_1) ∧ isD (VH.mk (3) [(2, VB.cells [I 0, I 0] 34), (1, VB.cells [I (↑k : Int)] 3), (0, VB.fam [] (6) (fun k => [n 0, n 1, n 2, n 3, n 4, n 5].getD k (0 : Int)) 80)]) 2 (VV.ptr (VA.own 0 0)) (VV.tp (nL n_1)) ∧ isD (VH.mk (3) [(2, VB.cells [I 0, I 0] 34), (1, VB.cells [I (↑k : Int)] 3), (0, VB.fam [] (6) (fun k => [n 0, n 1, n 2, n 3, n 4, n 5].getD k (0 : Int)) 80)]) 2 (VV.ptr (VA.own (1) 0)) (VV.tp [I (↑k_1 : Int)]) ∧ (nB n_1 ∧ lB l_1 ∧ ∃ m, pB l_1 m ∧ k_1 < m) ∧ ∃ (l_2 : List Stk) (n_2 : Nat → Int) (k_2 : Nat), isD (VH.mk (3) [(2, VB.cells [I 0, I 0] 34), (1, VB.cells [I (↑k : Int)] 3), (0, VB.fam [] (6) (fun k => [n 0, n 1, n 2, n 3, n 4, n 5].getD k (0 : Int)) 80)]) 3 (VV.tl l.length 5 (stG l)) (stD l_2) ∧ isD (VH.mk (3) [(2, VB.cells [I 0, I 0] 34), (1, VB.cells [I (↑k : Int)] 3), (0, VB.fam [] (6) (fun k => [n 0, n 1, n 2, n 3, n 4, n 5].getD k (0 : Int)) 80)]) 2 (VV.ptr (VA.own 0 0)) (VV.tp (nL n_2)) ∧ isD (VH.mk (3) [(2, VB.cells [I 0, I 0] 34), (1, VB.cells [I (↑k : Int)] 3), (0, VB.fam [] (6) (fun k => [n 0, n 1, n 2, n 3, n 4, n 5].getD k (0 : Int)) 80)]) 2 (VV.ptr (VA.own (1) 0)) (VV.tp [I (↑k_2 : Int)]) ∧ (nB n_2 ∧ lB l_2 ∧ ∃ m, pB l_2 m ∧ k_2 < m) ∧ Q (VRes.ret (VV.agg [I (sumF (tmL l_1 n_1 k_1) l_1.length), I (sumF (tmH l_2 n_2 k_2) l_2.length)]))) := by kernel_rfl

def faN (n : Nat → Int) : VB := .fam [] 6 (fun k => (ch n).getD k 0) 80
def dsA : List Nat := [15, 14, 13, 12, 11, 10, 7, 6, 4, 0, 1, 2]
def VA (l : List Stk) (t : Tst) (n : Nat → Int) (y i a : Int) : List VV := [I i, I l.length, stD l, .tp (stD l :: tsL t), .tp (stD l :: tsL t), .tp (stD l :: tsL t), I a, I 0, .ptr (.own 0 0), .tp (stD l :: tsL t), .agg (nL n), I y]
theorem ag_ev (l : List Stk) (t : Tst) (n : Nat → Int) (y i a : Int) (X : VEx → List VV → List VB → Prop) : codeE Try.prog (callN Try.prog noSpec noL 10 20) (fun _ => none) true 10 42 0 (loopB 0 (bodyOf Try.prog 79)) (dsA.zip (VA l t n y i a)) ⟨1, [0].zip [faN n]⟩ (obs 1 dsA [0] X) =
  (bif decide (i < (↑l.length : Int)) then
 bif decide ((0 : Int) ≤ i ∧ i < (↑l.length : Int)) then
 bif decide ((0 : Int) ≤ i ∧ i < (↑6 : Int)) then
 bif decide (i.toNat * (1) < 6) then
 bif decide ((fun k => (ch n).getD k (0 : Int)) (i.toNat * (1)) > (0 : Int)) then
 bif decide (a < (0 : Int)) then
 bif inK IntKind.i64 ((l.getD i.toNat k0).age + y) then
 bif inK IntKind.i64 (i + (1 : Int)) then
 X VEx.normal [I (i + (1 : Int)), I (↑l.length : Int), VV.tl l.length 5 (stG l), VV.tp [VV.tl l.length 5 (stG l), VV.tl t.T.length 1 (dG t.T), I t.far, I t.least], VV.tp [VV.tl l.length 5 (stG l), VV.tl t.T.length 1 (dG t.T), I t.far, I t.least], VV.tp [VV.tl l.length 5 (stG l), VV.tl t.T.length 1 (dG t.T), I t.far, I t.least], I ((l.getD i.toNat k0).age + y), I 0, VV.ptr (VA.own 0 0), VV.tp [VV.tl l.length 5 (stG l), VV.tl t.T.length 1 (dG t.T), I t.far, I t.least], VV.agg [I (n 0), I (n 1), I (n 2), I (n 3), I (n 4), I (n 5)], I y] [VB.fam [] 6 (fun k => (ch n).getD k (0 : Int)) (80 : TypeId)]
 else False
 else False
 else bif inK IntKind.i64 ((l.getD i.toNat k0).age + y) then
 bif decide ((l.getD i.toNat k0).age + y < a) then
 bif inK IntKind.i64 ((l.getD i.toNat k0).age + y) then
 bif inK IntKind.i64 (i + (1 : Int)) then
 X VEx.normal [I (i + (1 : Int)), I (↑l.length : Int), VV.tl l.length 5 (stG l), VV.tp [VV.tl l.length 5 (stG l), VV.tl t.T.length 1 (dG t.T), I t.far, I t.least], VV.tp [VV.tl l.length 5 (stG l), VV.tl t.T.length 1 (dG t.T), I t.far, I t.least], VV.tp [VV.tl l.length 5 (stG l), VV.tl t.T.length 1 (dG t.T), I t.far, I t.least], I ((l.getD i.toNat k0).age + y), I 0, VV.ptr (VA.own 0 0), VV.tp [VV.tl l.length 5 (stG l), VV.tl t.T.length 1 (dG t.T), I t.far, I t.least], VV.agg [I (n 0), I (n 1), I (n 2), I (n 3), I (n 4), I (n 5)], I y] [VB.fam [] 6 (fun k => (ch n).getD k (0 : Int)) (80 : TypeId)]
 else False
 else False
 else bif inK IntKind.i64 (i + (1 : Int)) then
 X VEx.normal [I (i + (1 : Int)), I (↑l.length : Int), VV.tl l.length 5 (stG l), VV.tp [VV.tl l.length 5 (stG l), VV.tl t.T.length 1 (dG t.T), I t.far, I t.least], VV.tp [VV.tl l.length 5 (stG l), VV.tl t.T.length 1 (dG t.T), I t.far, I t.least], VV.tp [VV.tl l.length 5 (stG l), VV.tl t.T.length 1 (dG t.T), I t.far, I t.least], I a, I 0, VV.ptr (VA.own 0 0), VV.tp [VV.tl l.length 5 (stG l), VV.tl t.T.length 1 (dG t.T), I t.far, I t.least], VV.agg [I (n 0), I (n 1), I (n 2), I (n 3), I (n 4), I (n 5)], I y] [VB.fam [] 6 (fun k => (ch n).getD k (0 : Int)) (80 : TypeId)]
 else False
 else False
 else bif inK IntKind.i64 (i + (1 : Int)) then
 X VEx.normal [I (i + (1 : Int)), I (↑l.length : Int), VV.tl l.length 5 (stG l), VV.tp [VV.tl l.length 5 (stG l), VV.tl t.T.length 1 (dG t.T), I t.far, I t.least], VV.tp [VV.tl l.length 5 (stG l), VV.tl t.T.length 1 (dG t.T), I t.far, I t.least], VV.tp [VV.tl l.length 5 (stG l), VV.tl t.T.length 1 (dG t.T), I t.far, I t.least], I a, I 0, VV.ptr (VA.own 0 0), VV.tp [VV.tl l.length 5 (stG l), VV.tl t.T.length 1 (dG t.T), I t.far, I t.least], VV.agg [I (n 0), I (n 1), I (n 2), I (n 3), I (n 4), I (n 5)], I y] [VB.fam [] 6 (fun k => (ch n).getD k (0 : Int)) (80 : TypeId)]
 else False
 else False
 else False
 else False
 else X (VEx.exit 0) [I i, I (↑l.length : Int), VV.tl l.length 5 (stG l), VV.tp [VV.tl l.length 5 (stG l), VV.tl t.T.length 1 (dG t.T), I t.far, I t.least], VV.tp [VV.tl l.length 5 (stG l), VV.tl t.T.length 1 (dG t.T), I t.far, I t.least], VV.tp [VV.tl l.length 5 (stG l), VV.tl t.T.length 1 (dG t.T), I t.far, I t.least], I a, I 0, VV.ptr (VA.own 0 0), VV.tp [VV.tl l.length 5 (stG l), VV.tl t.T.length 1 (dG t.T), I t.far, I t.least], VV.agg [I (n 0), I (n 1), I (n 2), I (n 3), I (n 4), I (n 5)], I y] [VB.fam [] 6 (fun k => (ch n).getD k (0 : Int)) (80 : TypeId)]) := by kernel_rfl

def ageF (l : List Stk) (n : Nat → Int) (y : Int) : Nat → Int
  | 0 => -1
  | k + 1 => if n k > 0 ∧ (ageF l n y k < 0 ∨ (l.getD k k0).age + y < ageF l n y k) then (l.getD k k0).age + y else ageF l n y k
def lAg (l : List Stk) (t : Tst) (n : Nat → Int) (y : Int) : LT := fun lock tt h K =>
  FitP lock h tt ⟨1, [0].zip [faN n]⟩ (dsA.zip (VA l t n y 0 (-1))) ∧ (nB n ∧ lB l ∧ 0 ≤ y ∧ y ≤ 1000) ∧ K .normal (dsA.zip (VA l t n y l.length (ageF l n y l.length))) ⟨1, [0].zip [faN n]⟩
theorem agf_ev (l : List Stk) (t : Tst) (n : Nat → Int) (y : Int) (Q : VRes → Prop) : callN Try.prog noSpec (atF 79 [(0, lAg l t n y)]) 10 20 0 (.fn 79) [.tp (stD l :: tsL t), .agg (nL n), I y] ⟨0, []⟩ (fun r h => Q r) =
  (FitP 0 (VH.mk 1 ([0].zip [faN n])) (dsA.zip (VA l t n y (0 : Int) (-1 : Int))) (VH.mk 1 ([0].zip [faN n])) (dsA.zip (VA l t n y (0 : Int) (-1 : Int))) ∧ (nB n ∧ lB l ∧ (0 : Int) ≤ y ∧ y ≤ (1000 : Int)) ∧ Q (VRes.ret (I (ageF l n y l.length)))) := by kernel_rfl

end Go.Sx.Bln

/- blend: volume, cost, notes, age. -/

namespace Go.Sx.Bln
open Go Go.Sx Go.Proofs
set_option maxRecDepth 1000000

theorem smT_ok : SpOk Try.prog smT.1 smT.2 := by
  intro lock args h K hK
  simp only [smT] at hK
  split at hK
  · obtain ⟨l, n, hx, hc, hh, hK⟩ := hK
    obtain ⟨h', hv⟩ := sumSV_v hh
    exact ⟨_, h, hK, lockP_refl _ _, calls_lendDP 3 hv rfl ⟨hx, ⟨rfl, trivial, hc, trivial⟩, trivial⟩⟩
  · obtain ⟨l, n, hx, hc, hh, hK⟩ := hK
    obtain ⟨h', hv⟩ := sumSC_v hh
    exact ⟨_, h, hK, lockP_refl _ _, calls_lendDP 3 hv rfl ⟨hx, ⟨rfl, trivial, hc, trivial⟩, trivial⟩⟩
  · obtain ⟨l, n, k, hx, hc, hd, hh, hK⟩ := hK
    obtain ⟨h', hv⟩ := sumSL_v hh
    exact ⟨_, h, hK, lockP_refl _ _, calls_lendDP 3 hv rfl ⟨hx, ⟨rfl, trivial, hc, hd, trivial⟩, trivial⟩⟩
  · obtain ⟨l, n, k, hx, hc, hd, hh, hK⟩ := hK
    obtain ⟨h', hv⟩ := sumSH_v hh
    exact ⟨_, h, hK, lockP_refl _ _, calls_lendDP 3 hv rfl ⟨hx, ⟨rfl, trivial, hc, hd, trivial⟩, trivial⟩⟩
  · exact hK.elim

section
variable {l : List Stk} {t : Tst} {n : Nat → Int}

theorem isD_n {h : VH} {m : Nat} (hm : h.at m = faN n) : isD h 2 (.ptr (.own m 0)) (.tp (nL n)) :=
  ⟨nL n, 80, by rw [hm]; rfl, ⟨rfl, rfl⟩, ⟨rfl, rfl⟩, ⟨rfl, rfl⟩, ⟨rfl, rfl⟩, ⟨rfl, rfl⟩, ⟨rfl, rfl⟩, trivial⟩
theorem isD_l {h : VH} {k : Nat} : isD h (k + 1) (.tl l.length 5 (stG l)) (stD l) := ⟨rfl, rfl, fun _ _ => rfl⟩

theorem vol_v (hn : nB n) (hl : lB l) : ∃ h', CallsV Try.prog 75 [.tp (stD l :: tsL t), .agg (nL n)] ⟨0, []⟩ (.ret (I (sumF (tmV l n) l.length))) h' := by
  obtain ⟨r, h', rfl, hc⟩ := of_callN (noL_good (tab1 smT_ok)) (f := 75) (args := [.tp (stD l :: tsL t), .agg (nL n)]) (h := ⟨0, []⟩) (K := fun r _ => r = .ret (I (sumF (tmV l n) l.length))) (by
    refine cast (vo_ev l t n _).symm ⟨l, n, isD_l, isD_n rfl, ⟨hn, hl⟩, rfl⟩)
  exact ⟨h', hc⟩
theorem cost_v (hn : nB n) (hl : lB l) : ∃ h', CallsV Try.prog 49 [.tp (stD l :: tsL t), .agg (nL n)] ⟨0, []⟩ (.ret (I (sumF (tmC l n) l.length))) h' := by
  obtain ⟨r, h', rfl, hc⟩ := of_callN (noL_good (tab1 smT_ok)) (f := 49) (args := [.tp (stD l :: tsL t), .agg (nL n)]) (h := ⟨0, []⟩) (K := fun r _ => r = .ret (I (sumF (tmC l n) l.length))) (by
    refine cast (co_ev l t n _).symm ⟨l, n, isD_l, isD_n rfl, ⟨hn, hl⟩, rfl⟩)
  exact ⟨h', hc⟩
theorem notes_v {k m : Nat} (hn : nB n) (hl : lB l) (hp : pB l m) (hk : k < m) : ∃ h', CallsV Try.prog 80 [.tp (stD l :: tsL t), .agg (nL n), I k] ⟨0, []⟩ (.ret (.agg [I (sumF (tmL l n k) l.length), I (sumF (tmH l n k) l.length)])) h' := by
  obtain ⟨r, h', rfl, hc⟩ := of_callN (noL_good (tab1 smT_ok)) (f := 80) (args := [.tp (stD l :: tsL t), .agg (nL n), I k]) (h := ⟨0, []⟩) (K := fun r _ => r = .ret (.agg [I (sumF (tmL l n k) l.length), I (sumF (tmH l n k) l.length)])) (by
    refine cast (no_ev l t n k _).symm ⟨l, n, k, isD_l, isD_n rfl, ⟨_, _, rfl, ⟨rfl, rfl⟩, trivial⟩, ⟨hn, hl, m, hp, hk⟩, l, n, k, isD_l, isD_n rfl, ⟨_, _, rfl, ⟨rfl, rfl⟩, trivial⟩, ⟨hn, hl, m, hp, hk⟩, rfl⟩)
  exact ⟨h', hc⟩

theorem ageF_bd {y : Int} (hl : lB l) (hy : 0 ≤ y ∧ y ≤ 1000) : ∀ k, k ≤ l.length → -1 ≤ ageF l n y k ∧ ageF l n y k ≤ 1100
  | 0, _ => by simp [ageF]
  | k + 1, h => by
    have h1 := ageF_bd hl hy k (by omega)
    obtain ⟨_, _, h4, _⟩ := hl.2 k (by omega)
    unfold ageF
    split <;> omega

theorem lAg_ok {y : Int} : LSound Try.prog true (.block 0 (.loop (loopB 0 (bodyOf Try.prog 79)))) 42 (lAg l t n y) := by
  by_cases hh : nB n ∧ lB l ∧ 0 ≤ y ∧ y ≤ 1000
  · obtain ⟨hn, hl, hy⟩ := hh
    have hl6 := hl.1
    refine loop_row hmix good0 (un := 10) (ds := dsA) (ns := [0]) (nx := 1) (fun i : Nat => VA l t n y i (ageF l n y i)) (fun _ => [faN n]) (fun i => i ≤ l.length) (fun i => l.length - i) (fun _ e vs bs => e = .exit 0 ∧ bs = [faN n] ∧ vs = VA l t n y l.length (ageF l n y l.length)) noL_ok ?_ ?_
    · rintro i h0
      refine cast (ag_ev l t n y i _ _).symm ?_
      by_cases hlt : i < l.length
      · obtain ⟨_, _, h4, _⟩ := hl.2 i hlt
        have hb := ageF_bd (n := n) hl hy i (by omega)
        have fin : ∀ a, a = ageF l n y (i + 1) → RoundQ (fun i : Nat => VA l t n y i (ageF l n y i)) (fun _ => [faN n]) (fun i => i ≤ l.length) (fun i => l.length - i) (fun _ e vs bs => e = .exit 0 ∧ bs = [faN n] ∧ vs = VA l t n y l.length (ageF l n y l.length)) i .normal (VA l t n y (i + 1) a) [faN n] := by
          rintro a rfl
          exact ⟨i + 1, by omega, by dsimp only; omega, rfl, fitBs_refl _, fun _ _ _ h => h⟩
        have hs : ageF l n y (i + 1) = if n i > 0 ∧ (ageF l n y i < 0 ∨ (l.getD i k0).age + y < ageF l n y i) then (l.getD i k0).age + y else ageF l n y i := rfl
        refine cond_dk (by omega) (cond_dk ⟨by omega, by omega⟩ (cond_dk ⟨by omega, by omega⟩ (cond_dk (by omega) ?_)))
        rw [show (i : Int).toNat = i by omega]
        have e2 : (fun k => (ch n).getD k 0) (i * 1) = n i := by
          rw [Nat.mul_one]
          exact ch_get (by omega)
        refine cond_d (fun g1 => cond_d (fun g2 => cond_r (by omega) (cond_r (by omega) (fin _ ?_))) (fun g2 => cond_r (by omega) (cond_d (fun g3 => cond_r (by omega) (cond_r (by omega) (fin _ ?_))) (fun g3 => cond_r (by omega) (fin _ ?_))))) (fun g1 => cond_r (by omega) (fin _ ?_))
        all_goals rw [e2] at g1
        · rw [hs, if_pos ⟨g1, .inl g2⟩]
        · rw [hs, if_pos ⟨g1, .inr g3⟩]
        · rw [hs, if_neg (by omega)]
        · rw [hs, if_neg (by omega)]
      · obtain rfl : i = l.length := by omega
        exact cond_d (fun h => by omega) (fun _ => ⟨rfl, rfl, rfl⟩)
    · rintro lock tt h K ⟨hf, _, k1⟩
      refine ⟨0, hf, Nat.zero_le _, ?_⟩
      rintro e vs bs ⟨rfl, rfl, rfl⟩
      exact k1
  · rintro lock tt h K ⟨hf, hc, _⟩
    exact (hh hc).elim

theorem age_v {y : Int} (hn : nB n) (hl : lB l) (hy : 0 ≤ y ∧ y ≤ 1000) : ∃ h', CallsV Try.prog 79 [.tp (stD l :: tsL t), .agg (nL n), I y] ⟨0, []⟩ (.ret (I (ageF l n y l.length))) h' := by
  have hall : LoopsOk Try.prog 79 [(0, lAg l t n y)] := fun x hx => by
    simp only [List.mem_singleton] at hx
    subst hx
    exact ⟨by kernel_rfl, lAg_ok⟩
  obtain ⟨r, h', rfl, hc⟩ := of_callN (callL_good hmix noSp hall (un := 10) 20) (f := 79) (args := [.tp (stD l :: tsL t), .agg (nL n), I y]) (h := ⟨0, []⟩) (K := fun r _ => r = .ret (I (ageF l n y l.length))) (by
    refine cast (agf_ev l t n y _).symm ?_
    exact ⟨⟨⟨rfl, rfl, VB.fit_refl _, trivial⟩, rfl, rfl, rfl, rfl, rfl, rfl, rfl, rfl, rfl, rfl, rfl, rfl, trivial⟩, ⟨hn, hl, hy⟩, rfl⟩)
  exact ⟨h', hc⟩
end

/-- The cellar's sums, as rows. -/
def volT : FuncId × Spec1 := (75, fun _ args h K => match args with
  | [c, .agg ns] => ∃ (l : List Stk) (t : Tst) (n : Nat → Int), isD h 4 c (.tp (stD l :: tsL t)) ∧ ns = nL n ∧ nB n ∧ lB l ∧ K (.ret (I (sumF (tmV l n) l.length))) h
  | _ => False)
def costT : FuncId × Spec1 := (49, fun _ args h K => match args with
  | [c, .agg ns] => ∃ (l : List Stk) (t : Tst) (n : Nat → Int), isD h 4 c (.tp (stD l :: tsL t)) ∧ ns = nL n ∧ nB n ∧ lB l ∧ K (.ret (I (sumF (tmC l n) l.length))) h
  | _ => False)
def notesT : FuncId × Spec1 := (80, fun _ args h K => match args with
  | [c, .agg ns, .int .i64 k'] => ∃ (l : List Stk) (t : Tst) (n : Nat → Int) (k m : Nat), isD h 4 c (.tp (stD l :: tsL t)) ∧ ns = nL n ∧ k' = k ∧ (nB n ∧ lB l ∧ pB l m ∧ k < m) ∧ K (.ret (.agg [I (sumF (tmL l n k) l.length), I (sumF (tmH l n k) l.length)])) h
  | _ => False)
def ageT : FuncId × Spec1 := (79, fun _ args h K => match args with
  | [c, .agg ns, .int .i64 y] => ∃ (l : List Stk) (t : Tst) (n : Nat → Int), isD h 4 c (.tp (stD l :: tsL t)) ∧ ns = nL n ∧ (nB n ∧ lB l ∧ 0 ≤ y ∧ y ≤ 1000) ∧ K (.ret (I (ageF l n y l.length))) h
  | _ => False)
theorem isD_nL {h : VH} {n : Nat → Int} {k : Nat} : isD h (k + 2) (.agg (nL n)) (.agg (nL n)) := ⟨⟨rfl, rfl⟩, ⟨rfl, rfl⟩, ⟨rfl, rfl⟩, ⟨rfl, rfl⟩, ⟨rfl, rfl⟩, ⟨rfl, rfl⟩, trivial⟩
theorem volT_ok : SpOk Try.prog volT.1 volT.2 := by
  intro lock args h K hK
  simp only [volT] at hK
  split at hK
  · obtain ⟨l, t, n, hc, rfl, hn, hl, hK⟩ := hK
    obtain ⟨h', hv⟩ := vol_v (t := t) hn hl
    exact ⟨_, h, hK, lockP_refl _ _, calls_lendDP 4 hv rfl ⟨hc, isD_nL, trivial⟩⟩
  · exact hK.elim
theorem costT_ok : SpOk Try.prog costT.1 costT.2 := by
  intro lock args h K hK
  simp only [costT] at hK
  split at hK
  · obtain ⟨l, t, n, hc, rfl, hn, hl, hK⟩ := hK
    obtain ⟨h', hv⟩ := cost_v (t := t) hn hl
    exact ⟨_, h, hK, lockP_refl _ _, calls_lendDP 4 hv rfl ⟨hc, isD_nL, trivial⟩⟩
  · exact hK.elim
theorem notesT_ok : SpOk Try.prog notesT.1 notesT.2 := by
  intro lock args h K hK
  simp only [notesT] at hK
  split at hK
  · obtain ⟨l, t, n, k, m, hc, rfl, rfl, ⟨hn, hl, hp, hk⟩, hK⟩ := hK
    obtain ⟨h', hv⟩ := notes_v (t := t) hn hl hp hk
    exact ⟨_, h, hK, lockP_refl _ _, calls_lendDP 4 hv rfl ⟨hc, isD_nL, ⟨rfl, rfl⟩, trivial⟩⟩
  · exact hK.elim
theorem ageT_ok : SpOk Try.prog ageT.1 ageT.2 := by
  intro lock args h K hK
  simp only [ageT] at hK
  split at hK
  · obtain ⟨l, t, n, hc, rfl, ⟨hn, hl, hy⟩, hK⟩ := hK
    obtain ⟨h', hv⟩ := age_v (t := t) hn hl hy
    exact ⟨_, h, hK, lockP_refl _ _, calls_lendDP 4 hv rfl ⟨hc, isD_nL, ⟨rfl, rfl⟩, trivial⟩⟩
  · exact hK.elim
end Go.Sx.Bln

/- blend: a blend, evaluated. -/

namespace Go.Sx.Bln
open Go Go.Sx Go.Proofs
set_option maxRecDepth 1000000

def dsB : List Nat := [45, 44, 43, 9, 8, 7, 6, 4, 0, 1, 2]
def VB4 (l : List Stk) (t : Tst) (n : Nat → Int) (y v a i : Int) : List VV := [I i, I t.T.length, inD t.T, .ptr (.own 2 0), I a, I v, .ptr (.own 1 0), .ptr (.own 0 0), .tp (stD l :: tsL t), .agg (nL n), I y]
abbrev zB : VB := .cells [I 0, I 0, I 0, .nils, .bool false] 49
def BB (n : Nat → Int) (v c a : Int) (P : List Sp) (b : Bool) : List VB := [faN n, zB, .cells [I v, I c, I a, .sl 3 P.length, .bool b] 49, .vec P.length (spG P) 2 34]
theorem br_ev (l : List Stk) (t : Tst) (n : Nat → Int) (y v c a1 a2 i : Int) (P : List Sp) (b : Bool) (X : VEx → List VV → List VB → Prop) : codeE Try.prog (callN Try.prog (tabS [notesT]) noL 10 20) (fun _ => none) true 10 104 0 (loopB 0 (bodyOf Try.prog 54)) (dsB.zip (VB4 l t n y v a1 i)) ⟨4, [0, 1, 2, 3].zip (BB n v c a2 P b)⟩ (obs 4 dsB [0, 1, 2, 3] X) =
  (bif decide (i < (↑t.T.length : Int)) then
 bif decide ((0 : Int) ≤ i ∧ i < (↑t.T.length : Int)) then
 ∃ (l_1 : List Stk) (t_1 : Tst) (n_1 : Nat → Int) (k m : Nat), isD (VH.mk 4 ([0, 1, 2, 3].zip (BB n v c a2 P b))) 4 (VV.tp (stD l :: tsL t)) (VV.tp (stD l_1 :: tsL t_1)) ∧ [I ((fun k => (ch n).getD k (0 : Int)) (0 + 0)), I ((fun k => (ch n).getD k (0 : Int)) (0 + 1)), I ((fun k => (ch n).getD k (0 : Int)) (0 + 2)), I ((fun k => (ch n).getD k (0 : Int)) (0 + 3)), I ((fun k => (ch n).getD k (0 : Int)) (0 + 4)), I ((fun k => (ch n).getD k (0 : Int)) (0 + 5))] = nL n_1 ∧ i = (↑k : Int) ∧ (nB n_1 ∧ lB l_1 ∧ pB l_1 m ∧ k < m) ∧ bif inK IntKind.i64 (t.T.getD i.toNat (0 : Int) + t.far) then
 bif inK IntKind.i64 ((t.T.getD i.toNat (0 : Int) + t.far) * v) then
 bif decide (sumF (tmH l_1 n_1 k) l_1.length > (t.T.getD i.toNat (0 : Int) + t.far) * v) then
 bif decide (v > (0 : Int)) then
 bif decide (v = (0 : Int)) then
 False
 else bif inK IntKind.i64 (quoZ (sumF (tmL l_1 n_1 k) l_1.length) v) then
 bif inK IntKind.i64 (sumF (tmH l_1 n_1 k) l_1.length + v) then
 bif inK IntKind.i64 (sumF (tmH l_1 n_1 k) l_1.length + v - (1 : Int)) then
 bif decide (v = (0 : Int)) then
 False
 else bif inK IntKind.i64 (quoZ (sumF (tmH l_1 n_1 k) l_1.length + v - (1 : Int)) v) then
 bif P.length.beq P.length then
 bif roomB (P.length + 1) (16) then
 bif inK IntKind.i64 (i + (1 : Int)) then
 X VEx.normal [I (i + (1 : Int)), I (↑t.T.length : Int), VV.tl t.T.length 1 (dG t.T), VV.ptr (VA.own 2 0), I a1, I v, VV.ptr (VA.own 1 0), VV.ptr (VA.own 0 0), VV.tp [VV.tl l.length 5 (stG l), VV.tl t.T.length 1 (dG t.T), I t.far, I t.least], VV.agg [I (n 0), I (n 1), I (n 2), I (n 3), I (n 4), I (n 5)], I y] [VB.fam [] 6 (fun k => (ch n).getD k (0 : Int)) (80 : TypeId), VB.cells [I 0, I 0, I 0, VV.nils, VV.bool false] (49 : TypeId), VB.cells [I v, I c, I a2, VV.sl 3 (P.length + 1), VV.bool false] (49 : TypeId), VB.vec (P.length + 1) (catG P.length (spG P) fun j => List.take (2) (List.drop (j * (2)) [I (quoZ (sumF (tmL l_1 n_1 k) l_1.length) v), I (quoZ (sumF (tmH l_1 n_1 k) l_1.length + v - (1 : Int)) v)])) (2) 34]
 else False
 else False
 else False
 else False
 else False
 else False
 else False
 else bif P.length.beq P.length then
 bif roomB (P.length + 1) (16) then
 bif inK IntKind.i64 (i + (1 : Int)) then
 X VEx.normal [I (i + (1 : Int)), I (↑t.T.length : Int), VV.tl t.T.length 1 (dG t.T), VV.ptr (VA.own 2 0), I a1, I v, VV.ptr (VA.own 1 0), VV.ptr (VA.own 0 0), VV.tp [VV.tl l.length 5 (stG l), VV.tl t.T.length 1 (dG t.T), I t.far, I t.least], VV.agg [I (n 0), I (n 1), I (n 2), I (n 3), I (n 4), I (n 5)], I y] [VB.fam [] 6 (fun k => (ch n).getD k (0 : Int)) (80 : TypeId), VB.cells [I 0, I 0, I 0, VV.nils, VV.bool false] (49 : TypeId), VB.cells [I v, I c, I a2, VV.sl 3 (P.length + 1), VV.bool false] (49 : TypeId), VB.vec (P.length + 1) (catG P.length (spG P) fun j => List.take (2) (List.drop (j * (2)) [I 0, I 0])) (2) 34]
 else False
 else False
 else False
 else bif inK IntKind.i64 (t.T.getD i.toNat (0 : Int) - t.far) then
 bif inK IntKind.i64 ((t.T.getD i.toNat (0 : Int) - t.far) * v) then
 bif decide (sumF (tmL l_1 n_1 k) l_1.length < (t.T.getD i.toNat (0 : Int) - t.far) * v) then
 bif decide (v > (0 : Int)) then
 bif decide (v = (0 : Int)) then
 False
 else bif inK IntKind.i64 (quoZ (sumF (tmL l_1 n_1 k) l_1.length) v) then
 bif inK IntKind.i64 (sumF (tmH l_1 n_1 k) l_1.length + v) then
 bif inK IntKind.i64 (sumF (tmH l_1 n_1 k) l_1.length + v - (1 : Int)) then
 bif decide (v = (0 : Int)) then
 False
 else bif inK IntKind.i64 (quoZ (sumF (tmH l_1 n_1 k) l_1.length + v - (1 : Int)) v) then
 bif P.length.beq P.length then
 bif roomB (P.length + 1) (16) then
 bif inK IntKind.i64 (i + (1 : Int)) then
 X VEx.normal [I (i + (1 : Int)), I (↑t.T.length : Int), VV.tl t.T.length 1 (dG t.T), VV.ptr (VA.own 2 0), I a1, I v, VV.ptr (VA.own 1 0), VV.ptr (VA.own 0 0), VV.tp [VV.tl l.length 5 (stG l), VV.tl t.T.length 1 (dG t.T), I t.far, I t.least], VV.agg [I (n 0), I (n 1), I (n 2), I (n 3), I (n 4), I (n 5)], I y] [VB.fam [] 6 (fun k => (ch n).getD k (0 : Int)) (80 : TypeId), VB.cells [I 0, I 0, I 0, VV.nils, VV.bool false] (49 : TypeId), VB.cells [I v, I c, I a2, VV.sl 3 (P.length + 1), VV.bool false] (49 : TypeId), VB.vec (P.length + 1) (catG P.length (spG P) fun j => List.take (2) (List.drop (j * (2)) [I (quoZ (sumF (tmL l_1 n_1 k) l_1.length) v), I (quoZ (sumF (tmH l_1 n_1 k) l_1.length + v - (1 : Int)) v)])) (2) 34]
 else False
 else False
 else False
 else False
 else False
 else False
 else False
 else bif P.length.beq P.length then
 bif roomB (P.length + 1) (16) then
 bif inK IntKind.i64 (i + (1 : Int)) then
 X VEx.normal [I (i + (1 : Int)), I (↑t.T.length : Int), VV.tl t.T.length 1 (dG t.T), VV.ptr (VA.own 2 0), I a1, I v, VV.ptr (VA.own 1 0), VV.ptr (VA.own 0 0), VV.tp [VV.tl l.length 5 (stG l), VV.tl t.T.length 1 (dG t.T), I t.far, I t.least], VV.agg [I (n 0), I (n 1), I (n 2), I (n 3), I (n 4), I (n 5)], I y] [VB.fam [] 6 (fun k => (ch n).getD k (0 : Int)) (80 : TypeId), VB.cells [I 0, I 0, I 0, VV.nils, VV.bool false] (49 : TypeId), VB.cells [I v, I c, I a2, VV.sl 3 (P.length + 1), VV.bool false] (49 : TypeId), VB.vec (P.length + 1) (catG P.length (spG P) fun j => List.take (2) (List.drop (j * (2)) [I 0, I 0])) (2) 34]
 else False
 else False
 else False
 else bif decide (v > (0 : Int)) then
 bif decide (v = (0 : Int)) then
 False
 else bif inK IntKind.i64 (quoZ (sumF (tmL l_1 n_1 k) l_1.length) v) then
 bif inK IntKind.i64 (sumF (tmH l_1 n_1 k) l_1.length + v) then
 bif inK IntKind.i64 (sumF (tmH l_1 n_1 k) l_1.length + v - (1 : Int)) then
 bif decide (v = (0 : Int)) then
 False
 else bif inK IntKind.i64 (quoZ (sumF (tmH l_1 n_1 k) l_1.length + v - (1 : Int)) v) then
 bif P.length.beq P.length then
 bif roomB (P.length + 1) (16) then
 bif inK IntKind.i64 (i + (1 : Int)) then
 X VEx.normal [I (i + (1 : Int)), I (↑t.T.length : Int), VV.tl t.T.length 1 (dG t.T), VV.ptr (VA.own 2 0), I a1, I v, VV.ptr (VA.own 1 0), VV.ptr (VA.own 0 0), VV.tp [VV.tl l.length 5 (stG l), VV.tl t.T.length 1 (dG t.T), I t.far, I t.least], VV.agg [I (n 0), I (n 1), I (n 2), I (n 3), I (n 4), I (n 5)], I y] [VB.fam [] 6 (fun k => (ch n).getD k (0 : Int)) (80 : TypeId), VB.cells [I 0, I 0, I 0, VV.nils, VV.bool false] (49 : TypeId), VB.cells [I v, I c, I a2, VV.sl 3 (P.length + 1), VV.bool b] (49 : TypeId), VB.vec (P.length + 1) (catG P.length (spG P) fun j => List.take (2) (List.drop (j * (2)) [I (quoZ (sumF (tmL l_1 n_1 k) l_1.length) v), I (quoZ (sumF (tmH l_1 n_1 k) l_1.length + v - (1 : Int)) v)])) (2) 34]
 else False
 else False
 else False
 else False
 else False
 else False
 else False
 else bif P.length.beq P.length then
 bif roomB (P.length + 1) (16) then
 bif inK IntKind.i64 (i + (1 : Int)) then
 X VEx.normal [I (i + (1 : Int)), I (↑t.T.length : Int), VV.tl t.T.length 1 (dG t.T), VV.ptr (VA.own 2 0), I a1, I v, VV.ptr (VA.own 1 0), VV.ptr (VA.own 0 0), VV.tp [VV.tl l.length 5 (stG l), VV.tl t.T.length 1 (dG t.T), I t.far, I t.least], VV.agg [I (n 0), I (n 1), I (n 2), I (n 3), I (n 4), I (n 5)], I y] [VB.fam [] 6 (fun k => (ch n).getD k (0 : Int)) (80 : TypeId), VB.cells [I 0, I 0, I 0, VV.nils, VV.bool false] (49 : TypeId), VB.cells [I v, I c, I a2, VV.sl 3 (P.length + 1), VV.bool b] (49 : TypeId), VB.vec (P.length + 1) (catG P.length (spG P) fun j => List.take (2) (List.drop (j * (2)) [I 0, I 0])) (2) 34]
 else False
 else False
 else False
 else False
 else False
 else False
 else False
 else False
 else X (VEx.exit 0) [I i, I (↑t.T.length : Int), VV.tl t.T.length 1 (dG t.T), VV.ptr (VA.own 2 0), I a1, I v, VV.ptr (VA.own 1 0), VV.ptr (VA.own 0 0), VV.tp [VV.tl l.length 5 (stG l), VV.tl t.T.length 1 (dG t.T), I t.far, I t.least], VV.agg [I (n 0), I (n 1), I (n 2), I (n 3), I (n 4), I (n 5)], I y] [VB.fam [] 6 (fun k => (ch n).getD k (0 : Int)) (80 : TypeId), VB.cells [I 0, I 0, I 0, VV.nils, VV.bool false] (49 : TypeId), VB.cells [I v, I c, I a2, VV.sl 3 P.length, VV.bool b] (49 : TypeId), VB.vec P.length (spG P) 2 (34 : TypeId)]) := by kernel_rfl

def tB (t : Tst) : Prop := (1 ≤ t.T.length ∧ t.T.length ≤ 4) ∧ (∀ k, k < t.T.length → 0 ≤ t.T.getD k 0 ∧ t.T.getD k 0 ≤ 1000) ∧ (0 ≤ t.far ∧ t.far ≤ 1000) ∧ 0 ≤ t.least ∧ t.least ≤ 100
abbrev volF (l : List Stk) (n : Nat → Int) : Int := sumF (tmV l n) l.length
abbrev costF (l : List Stk) (n : Nat → Int) : Int := sumF (tmC l n) l.length
abbrev loF (l : List Stk) (n : Nat → Int) (k : Nat) : Int := sumF (tmL l n k) l.length
abbrev hiF (l : List Stk) (n : Nat → Int) (k : Nat) : Int := sumF (tmH l n k) l.length
def okF (l : List Stk) (t : Tst) (n : Nat → Int) (k : Nat) : Bool := !decide (hiF l n k > (t.T.getD k 0 + t.far) * volF l n) && !decide (loF l n k < (t.T.getD k 0 - t.far) * volF l n)
def ownF (l : List Stk) (n : Nat → Int) (k : Nat) : Sp := if volF l n > 0 then ⟨quoZ (loF l n k) (volF l n), quoZ (hiF l n k + volF l n - 1) (volF l n)⟩ else ⟨0, 0⟩
def PF (l : List Stk) (n : Nat → Int) : Nat → List Sp
  | 0 => []
  | k + 1 => PF l n k ++ [ownF l n k]
def KF (l : List Stk) (t : Tst) (n : Nat → Int) (b : Bool) : Nat → Bool
  | 0 => b
  | k + 1 => KF l t n b k && okF l t n k
abbrev conB (l : List Stk) (t : Tst) (n : Nat → Int) : Prop := nB n ∧ lB l ∧ pB l t.T.length ∧ tB t
def lBs (l : List Stk) (t : Tst) (n : Nat → Int) (y c a1 a2 : Int) (b : Bool) : LT := fun lock tt h K =>
  FitP lock h tt ⟨4, [0, 1, 2, 3].zip (BB n (volF l n) c a2 [] b)⟩ (dsB.zip (VB4 l t n y (volF l n) a1 0)) ∧ conB l t n ∧ K .normal (dsB.zip (VB4 l t n y (volF l n) a1 t.T.length)) ⟨4, [0, 1, 2, 3].zip (BB n (volF l n) c a2 (PF l n t.T.length) (KF l t n b t.T.length))⟩
def lBl (l : List Stk) (t : Tst) (n : Nat → Int) (y c a1 a2 : Int) (b : Bool) : LT := fun lock tt h K =>
  FitP lock h tt ⟨3, [0, 1, 2].zip [faN n, zB, .cells [I (volF l n), I c, I a2, .nils, .bool b] 49]⟩ (dsB.zip (VB4 l t n y (volF l n) a1 0)) ∧ conB l t n ∧ K .normal (dsB.zip (VB4 l t n y (volF l n) a1 t.T.length)) ⟨4, [0, 1, 2, 3].zip (BB n (volF l n) c a2 (PF l n t.T.length) (KF l t n b t.T.length))⟩
theorem blf_ev (l : List Stk) (t : Tst) (n : Nat → Int) (y c a1 a2 : Int) (b : Bool) (Q : VRes → VH → Prop) : callN Try.prog (tabS [volT, costT, notesT, ageT]) (atF 54 [(0, lBl l t n y c a1 a2 b)]) 10 20 0 (.fn 54) [.tp (stD l :: tsL t), .agg (nL n), I y] ⟨0, []⟩ (fun r h => Q r h) =
  (∃ (l_1 : List Stk) (t_1 : Tst) (n_1 : Nat → Int), isD (maskH [0, 1] (VH.mk (2) [(1, VB.cells [I 0, I 0, I 0, VV.nils, VV.bool false] 49), (0, VB.fam [] (6) (fun k => [n 0, n 1, n 2, n 3, n 4, n 5].getD k (0 : Int)) 80)])) 4 (VV.tp (stD l :: tsL t)) (VV.tp (stD l_1 :: tsL t_1)) ∧ [I ((fun k => [n 0, n 1, n 2, n 3, n 4, n 5].getD k (0 : Int)) (0 + 0)), I ((fun k => [n 0, n 1, n 2, n 3, n 4, n 5].getD k (0 : Int)) (0 + 1)), I ((fun k => [n 0, n 1, n 2, n 3, n 4, n 5].getD k (0 : Int)) (0 + 2)), I ((fun k => [n 0, n 1, n 2, n 3, n 4, n 5].getD k (0 : Int)) (0 + 3)), I ((fun k => [n 0, n 1, n 2, n 3, n 4, n 5].getD k (0 : Int)) (0 + 4)), I ((fun k => [n 0, n 1, n 2, n 3, n 4, n 5].getD k (0 : Int)) (0 + 5))] = nL n_1 ∧ nB n_1 ∧ lB l_1 ∧ ∃ (l_2 : List Stk) (t_2 : Tst) (n_2 : Nat → Int), isD (VH.mk (2) [(1, VB.cells [I 0, I 0, I 0, VV.nils, VV.bool false] 49), (0, VB.fam [] (6) (fun k => [n 0, n 1, n 2, n 3, n 4, n 5].getD k (0 : Int)) 80)]) 4 (VV.tp (stD l :: tsL t)) (VV.tp (stD l_2 :: tsL t_2)) ∧ [I ((fun k => [n 0, n 1, n 2, n 3, n 4, n 5].getD k (0 : Int)) (0 + 0)), I ((fun k => [n 0, n 1, n 2, n 3, n 4, n 5].getD k (0 : Int)) (0 + 1)), I ((fun k => [n 0, n 1, n 2, n 3, n 4, n 5].getD k (0 : Int)) (0 + 2)), I ((fun k => [n 0, n 1, n 2, n 3, n 4, n 5].getD k (0 : Int)) (0 + 3)), I ((fun k => [n 0, n 1, n 2, n 3, n 4, n 5].getD k (0 : Int)) (0 + 4)), I ((fun k => [n 0, n 1, n 2, n 3, n 4, n 5].getD k (0 : Int)) (0 + 5))] = nL n_2 ∧ (nB n_2 ∧ lB l_2 ∧ (0 : Int) ≤ y ∧ y ≤ (1000 : Int)) ∧ ∃ (l_3 : List Stk) (t_3 : Tst) (n_3 : Nat → Int), isD (VH.mk (2) [(1, VB.cells [I 0, I 0, I 0, VV.nils, VV.bool false] 49), (0, VB.fam [] (6) (fun k => [n 0, n 1, n 2, n 3, n 4, n 5].getD k (0 : Int)) 80)]) 4 (VV.tp (stD l :: tsL t)) (VV.tp (stD l_3 :: tsL t_3)) ∧ [I ((fun k => [n 0, n 1, n 2, n 3, n 4, n 5].getD k (0 : Int)) (0 + 0)), I ((fun k => [n 0, n 1, n 2, n 3, n 4, n 5].getD k (0 : Int)) (0 + 1)), I ((fun k => [n 0, n 1, n 2, n 3, n 4, n 5].getD k (0 : Int)) (0 + 2)), I ((fun k => [n 0, n 1, n 2, n 3, n 4, n 5].getD k (0 : Int)) (0 + 3)), I ((fun k => [n 0, n 1, n 2, n 3, n 4, n 5].getD k (0 : Int)) (0 + 4)), I ((fun k => [n 0, n 1, n 2, n 3, n 4, n 5].getD k (0 : Int)) (0 + 5))] = nL n_3 ∧ nB n_3 ∧ lB l_3 ∧ bif decide (sumF (tmV l_1 n_1) l_1.length > (0 : Int)) then
 FitP 0 (VH.mk (3) [(2, VB.cells [I (sumF (tmV l_1 n_1) l_1.length), I (sumF (tmC l_3 n_3) l_3.length), I (max (0 : Int) (ageF l_2 n_2 y l_2.length)), VV.nils, VV.bool (decide (ageF l_2 n_2 y l_2.length ≥ t.least))] 49), (2, VB.cells [I 0, I 0, I 0, VV.nils, VV.bool false] 49), (1, VB.cells [I 0, I 0, I 0, VV.nils, VV.bool false] 49), (0, VB.fam [] (6) (fun k => [n 0, n 1, n 2, n 3, n 4, n 5].getD k (0 : Int)) 80)]) [(45, I 0), (44, I (↑t.T.length : Int)), (43, VV.tl t.T.length 1 (dG t.T)), (42, VV.tp [VV.tl t.T.length 1 (dG t.T), I t.far, I t.least]), (41, VV.tp [VV.tl t.T.length 1 (dG t.T), I t.far, I t.least]), (40, VV.tp (stD l :: tsL t)), (39, VV.tp (stD l :: tsL t)), (9, VV.ptr (VA.own (2) 0)), (38, VV.agg [I (sumF (tmV l_1 n_1) l_1.length), I (sumF (tmC l_3 n_3) l_3.length), I (max (0 : Int) (ageF l_2 n_2 y l_2.length)), VV.nils, VV.bool (decide (ageF l_2 n_2 y l_2.length ≥ t.least))]), (37, VV.bool (decide (ageF l_2 n_2 y l_2.length ≥ t.least))), (36, VV.bool (decide (ageF l_2 n_2 y l_2.length ≥ t.least))), (29, VV.bool true), (35, I t.least), (29, VV.bool true), (34, VV.tp [I t.least]), (29, VV.bool true), (33, VV.tp [VV.tl t.T.length 1 (dG t.T), I t.far, I t.least]), (29, VV.bool true), (32, VV.tp (stD l :: tsL t)), (29, VV.bool true), (31, VV.tp (stD l :: tsL t)), (29, VV.bool true), (30, I (ageF l_2 n_2 y l_2.length)), (29, VV.bool true), (29, VV.bool (decide (sumF (tmV l_1 n_1) l_1.length > (0 : Int)))), (28, VV.bool (decide (sumF (tmV l_1 n_1) l_1.length > (0 : Int)))), (27, I (sumF (tmV l_1 n_1) l_1.length)), (26, I (max (0 : Int) (ageF l_2 n_2 y l_2.length))), (25, I (ageF l_2 n_2 y l_2.length)), (24, I (sumF (tmC l_3 n_3) l_3.length)), (23, VV.agg [I ((fun k => [n 0, n 1, n 2, n 3, n 4, n 5].getD k (0 : Int)) (0 + 0)), I ((fun k => [n 0, n 1, n 2, n 3, n 4, n 5].getD k (0 : Int)) (0 + 1)), I ((fun k => [n 0, n 1, n 2, n 3, n 4, n 5].getD k (0 : Int)) (0 + 2)), I ((fun k => [n 0, n 1, n 2, n 3, n 4, n 5].getD k (0 : Int)) (0 + 3)), I ((fun k => [n 0, n 1, n 2, n 3, n 4, n 5].getD k (0 : Int)) (0 + 4)), I ((fun k => [n 0, n 1, n 2, n 3, n 4, n 5].getD k (0 : Int)) (0 + 5))]), (22, VV.tp (stD l :: tsL t)), (21, I (sumF (tmV l_1 n_1) l_1.length)), (8, I (ageF l_2 n_2 y l_2.length)), (7, I (sumF (tmV l_1 n_1) l_1.length)), (20, I (ageF l_2 n_2 y l_2.length)), (19, I y), (18, VV.agg [I ((fun k => [n 0, n 1, n 2, n 3, n 4, n 5].getD k (0 : Int)) (0 + 0)), I ((fun k => [n 0, n 1, n 2, n 3, n 4, n 5].getD k (0 : Int)) (0 + 1)), I ((fun k => [n 0, n 1, n 2, n 3, n 4, n 5].getD k (0 : Int)) (0 + 2)), I ((fun k => [n 0, n 1, n 2, n 3, n 4, n 5].getD k (0 : Int)) (0 + 3)), I ((fun k => [n 0, n 1, n 2, n 3, n 4, n 5].getD k (0 : Int)) (0 + 4)), I ((fun k => [n 0, n 1, n 2, n 3, n 4, n 5].getD k (0 : Int)) (0 + 5))]), (17, VV.tp (stD l :: tsL t)), (16, I (sumF (tmV l_1 n_1) l_1.length)), (15, VV.agg [I ((fun k => [n 0, n 1, n 2, n 3, n 4, n 5].getD k (0 : Int)) (0 + 0)), I ((fun k => [n 0, n 1, n 2, n 3, n 4, n 5].getD k (0 : Int)) (0 + 1)), I ((fun k => [n 0, n 1, n 2, n 3, n 4, n 5].getD k (0 : Int)) (0 + 2)), I ((fun k => [n 0, n 1, n 2, n 3, n 4, n 5].getD k (0 : Int)) (0 + 3)), I ((fun k => [n 0, n 1, n 2, n 3, n 4, n 5].getD k (0 : Int)) (0 + 4)), I ((fun k => [n 0, n 1, n 2, n 3, n 4, n 5].getD k (0 : Int)) (0 + 5))]), (14, VV.tp (stD l :: tsL t)), (6, VV.ptr (VA.own (1) 0)), (4, VV.ptr (VA.own 0 0)), (0, VV.tp (stD l :: tsL t)), (1, VV.agg (nL n)), (2, I y)] (VH.mk 3 ([0, 1, 2].zip [faN n, zB, VB.cells [I (volF l n), I c, I a2, VV.nils, VV.bool b] (49 : TypeId)])) (dsB.zip (VB4 l t n y (volF l n) a1 (0 : Int))) ∧ conB l t n ∧ Q (VRes.ret (VV.agg [I (volF l n), I c, I a2, VV.sl 3 (PF l n t.T.length).length, VV.bool (KF l t n b t.T.length)])) (VH.mk 4 [(1, VB.cells [I (volF l n), I c, I a2, VV.sl 3 (PF l n t.T.length).length, VV.bool (KF l t n b t.T.length)] (49 : TypeId)), (0, VB.fam [] 6 (fun k => (ch n).getD k (0 : Int)) (80 : TypeId)), (1, VB.cells [I 0, I 0, I 0, VV.nils, VV.bool false] (49 : TypeId)), (2, VB.cells [I (volF l n), I c, I a2, VV.sl 3 (PF l n t.T.length).length, VV.bool (KF l t n b t.T.length)] (49 : TypeId)), (3, VB.vec (PF l n t.T.length).length (spG (PF l n t.T.length)) 2 (34 : TypeId))])
 else FitP 0 (VH.mk (3) [(2, VB.cells [I (sumF (tmV l_1 n_1) l_1.length), I (sumF (tmC l_3 n_3) l_3.length), I (max (0 : Int) (ageF l_2 n_2 y l_2.length)), VV.nils, VV.bool false] 49), (2, VB.cells [I 0, I 0, I 0, VV.nils, VV.bool false] 49), (1, VB.cells [I 0, I 0, I 0, VV.nils, VV.bool false] 49), (0, VB.fam [] (6) (fun k => [n 0, n 1, n 2, n 3, n 4, n 5].getD k (0 : Int)) 80)]) [(45, I 0), (44, I (↑t.T.length : Int)), (43, VV.tl t.T.length 1 (dG t.T)), (42, VV.tp [VV.tl t.T.length 1 (dG t.T), I t.far, I t.least]), (41, VV.tp [VV.tl t.T.length 1 (dG t.T), I t.far, I t.least]), (40, VV.tp (stD l :: tsL t)), (39, VV.tp (stD l :: tsL t)), (9, VV.ptr (VA.own (2) 0)), (38, VV.agg [I (sumF (tmV l_1 n_1) l_1.length), I (sumF (tmC l_3 n_3) l_3.length), I (max (0 : Int) (ageF l_2 n_2 y l_2.length)), VV.nils, VV.bool false]), (37, VV.bool false), (36, udf), (29, VV.bool false), (35, udf), (29, VV.bool false), (34, udf), (29, VV.bool false), (33, udf), (29, VV.bool false), (32, udf), (29, VV.bool false), (31, udf), (29, VV.bool false), (30, udf), (29, VV.bool false), (29, VV.bool (decide (sumF (tmV l_1 n_1) l_1.length > (0 : Int)))), (28, VV.bool (decide (sumF (tmV l_1 n_1) l_1.length > (0 : Int)))), (27, I (sumF (tmV l_1 n_1) l_1.length)), (26, I (max (0 : Int) (ageF l_2 n_2 y l_2.length))), (25, I (ageF l_2 n_2 y l_2.length)), (24, I (sumF (tmC l_3 n_3) l_3.length)), (23, VV.agg [I ((fun k => [n 0, n 1, n 2, n 3, n 4, n 5].getD k (0 : Int)) (0 + 0)), I ((fun k => [n 0, n 1, n 2, n 3, n 4, n 5].getD k (0 : Int)) (0 + 1)), I ((fun k => [n 0, n 1, n 2, n 3, n 4, n 5].getD k (0 : Int)) (0 + 2)), I ((fun k => [n 0, n 1, n 2, n 3, n 4, n 5].getD k (0 : Int)) (0 + 3)), I ((fun k => [n 0, n 1, n 2, n 3, n 4, n 5].getD k (0 : Int)) (0 + 4)), I ((fun k => [n 0, n 1, n 2, n 3, n 4, n 5].getD k (0 : Int)) (0 + 5))]), (22, VV.tp (stD l :: tsL t)), (21, I (sumF (tmV l_1 n_1) l_1.length)), (8, I (ageF l_2 n_2 y l_2.length)), (7, I (sumF (tmV l_1 n_1) l_1.length)), (20, I (ageF l_2 n_2 y l_2.length)), (19, I y), (18, VV.agg [I ((fun k => [n 0, n 1, n 2, n 3, n 4, n 5].getD k (0 : Int)) (0 + 0)), I ((fun k => [n 0, n 1, n 2, n 3, n 4, n 5].getD k (0 : Int)) (0 + 1)), I ((fun k => [n 0, n 1, n 2, n 3, n 4, n 5].getD k (0 : Int)) (0 + 2)), I ((fun k => [n 0, n 1, n 2, n 3, n 4, n 5].getD k (0 : Int)) (0 + 3)), I ((fun k => [n 0, n 1, n 2, n 3, n 4, n 5].getD k (0 : Int)) (0 + 4)), I ((fun k => [n 0, n 1, n 2, n 3, n 4, n 5].getD k (0 : Int)) (0 + 5))]), (17, VV.tp (stD l :: tsL t)), (16, I (sumF (tmV l_1 n_1) l_1.length)), (15, VV.agg [I ((fun k => [n 0, n 1, n 2, n 3, n 4, n 5].getD k (0 : Int)) (0 + 0)), I ((fun k => [n 0, n 1, n 2, n 3, n 4, n 5].getD k (0 : Int)) (0 + 1)), I ((fun k => [n 0, n 1, n 2, n 3, n 4, n 5].getD k (0 : Int)) (0 + 2)), I ((fun k => [n 0, n 1, n 2, n 3, n 4, n 5].getD k (0 : Int)) (0 + 3)), I ((fun k => [n 0, n 1, n 2, n 3, n 4, n 5].getD k (0 : Int)) (0 + 4)), I ((fun k => [n 0, n 1, n 2, n 3, n 4, n 5].getD k (0 : Int)) (0 + 5))]), (14, VV.tp (stD l :: tsL t)), (6, VV.ptr (VA.own (1) 0)), (4, VV.ptr (VA.own 0 0)), (0, VV.tp (stD l :: tsL t)), (1, VV.agg (nL n)), (2, I y)] (VH.mk 3 ([0, 1, 2].zip [faN n, zB, VB.cells [I (volF l n), I c, I a2, VV.nils, VV.bool b] (49 : TypeId)])) (dsB.zip (VB4 l t n y (volF l n) a1 (0 : Int))) ∧ conB l t n ∧ Q (VRes.ret (VV.agg [I (volF l n), I c, I a2, VV.sl 3 (PF l n t.T.length).length, VV.bool (KF l t n b t.T.length)])) (VH.mk 4 [(1, VB.cells [I (volF l n), I c, I a2, VV.sl 3 (PF l n t.T.length).length, VV.bool (KF l t n b t.T.length)] (49 : TypeId)), (0, VB.fam [] 6 (fun k => (ch n).getD k (0 : Int)) (80 : TypeId)), (1, VB.cells [I 0, I 0, I 0, VV.nils, VV.bool false] (49 : TypeId)), (2, VB.cells [I (volF l n), I c, I a2, VV.sl 3 (PF l n t.T.length).length, VV.bool (KF l t n b t.T.length)] (49 : TypeId)), (3, VB.vec (PF l n t.T.length).length (spG (PF l n t.T.length)) 2 (34 : TypeId))])) := by kernel_rfl

end Go.Sx.Bln

/- blend: a blend. -/

namespace Go.Sx.Bln
open Go Go.Sx Go.Proofs
set_option maxRecDepth 1000000

theorem room16 {n : Nat} (h : n ≤ 100000) : roomB n 16 = true := by
  unfold roomB
  simp only [Bool.and_eq_true, Nat.ble_eq]
  omega
theorem fit_sp {P : List Sp} {x : Sp} : (VB.vec (P ++ [x]).length (spG (P ++ [x])) 2 34).fit (.vec (P.length + 1) (catG P.length (spG P) fun j => List.take 2 (List.drop (j * 2) [I x.lo, I x.hi])) 2 34) := by
  refine ⟨by simp, rfl, rfl, fun j hj => ?_⟩
  rw [List.length_append, List.length_singleton] at hj
  unfold catG
  by_cases hjk : j < P.length
  · rw [blt_t hjk]
    unfold spG
    rw [List.getD_eq_getElem?_getD (l := P ++ [x]), List.getElem?_append_left hjk, ← List.getD_eq_getElem?_getD]
    rfl
  · rw [blt_f (by omega)]
    obtain rfl : j = P.length := by omega
    unfold spG
    rw [List.getD_eq_getElem?_getD (l := P ++ [x]), List.getElem?_append_right (Nat.le_refl _), Nat.sub_self]
    rfl

section
variable {l : List Stk} {t : Tst} {n : Nat → Int} {y c a1 a2 : Int} {b : Bool}

theorem vol_bd (hn : nB n) (hl : lB l) : 0 ≤ volF l n ∧ volF l n ≤ 2359296 := by
  have h := sumF_bd (f := tmV l n) (M := 6 * 65536) l.length (fun i hi => bdSV ⟨hn, hl⟩ hi)
  have hl6 := hl.1
  have : ((l.length : Nat) : Int) * (6 * 65536) ≤ 6 * (6 * 65536) := Int.mul_le_mul_of_nonneg_right (by omega) (by decide)
  unfold volF
  omega
theorem cost_bd (hn : nB n) (hl : lB l) : 0 ≤ costF l n ∧ costF l n ≤ 37748736 := by
  have h := sumF_bd (f := tmC l n) (M := 6 * 1048576) l.length (fun i hi => bdSC ⟨hn, hl⟩ hi)
  have hl6 := hl.1
  have : ((l.length : Nat) : Int) * (6 * 1048576) ≤ 6 * (6 * 1048576) := Int.mul_le_mul_of_nonneg_right (by omega) (by decide)
  unfold costF
  omega
theorem note_bd {m k : Nat} (hn : nB n) (hl : lB l) (hp : pB l m) (hk : k < m) : (0 ≤ loF l n k ∧ loF l n k ≤ 2359296000) ∧ 0 ≤ hiF l n k ∧ hiF l n k ≤ 2359296000 := by
  have h := sumF_bd (f := tmL l n k) (M := 6 * 65536 * 1000) l.length (fun i hi => bdSL ⟨hn, hl, m, hp, hk⟩ hi)
  have h' := sumF_bd (f := tmH l n k) (M := 6 * 65536 * 1000) l.length (fun i hi => bdSH ⟨hn, hl, m, hp, hk⟩ hi)
  have hl6 := hl.1
  have : ((l.length : Nat) : Int) * (6 * 65536 * 1000) ≤ 6 * (6 * 65536 * 1000) := Int.mul_le_mul_of_nonneg_right (by omega) (by decide)
  unfold loF hiF
  omega
theorem quo_bd {a b M : Int} (ha : 0 ≤ a ∧ a ≤ M) (hb : 0 < b) : 0 ≤ quoZ a b ∧ quoZ a b ≤ M := by
  rw [quoZ_nn ha.1]
  exact ⟨Int.ediv_nonneg ha.1 (by omega), Int.le_trans (Int.ediv_le_self _ ha.1) ha.2⟩

theorem PF_len : ∀ k, (PF l n k).length = k
  | 0 => rfl
  | k + 1 => by
    unfold PF
    rw [List.length_append, List.length_singleton, PF_len k]

def outB (l : List Stk) (t : Tst) (n : Nat → Int) (y c a1 a2 : Int) (b : Bool) (_ : Nat) (e : VEx) (vs : List VV) (bs : List VB) : Prop :=
  e = .exit 0 ∧ bs = BB n (volF l n) c a2 (PF l n t.T.length) (KF l t n b t.T.length) ∧ vs = VB4 l t n y (volF l n) a1 t.T.length

theorem nt_good : Good Try.prog (callN Try.prog (tabS [notesT]) noL 10 20) := noL_good (tab1 notesT_ok)

theorem lBs_ok : LSound Try.prog true (.block 0 (.loop (loopB 0 (bodyOf Try.prog 54)))) 104 (lBs l t n y c a1 a2 b) := by
  by_cases hh : conB l t n
  · obtain ⟨hn, hl, hp, ⟨ht1, ht2⟩, htn, htf, _⟩ := hh
    refine loop_row hmix nt_good (un := 10) (ds := dsB) (ns := [0, 1, 2, 3]) (nx := 4) (fun k : Nat => VB4 l t n y (volF l n) a1 k) (fun k => BB n (volF l n) c a2 (PF l n k) (KF l t n b k)) (fun k => k ≤ t.T.length) (fun k => t.T.length - k) (outB l t n y c a1 a2 b) noL_ok ?_ ?_
    · rintro k h0
      refine cast (br_ev l t n y _ c a1 a2 k _ _ _).symm ?_
      by_cases hlt : k < t.T.length
      · obtain ⟨t1, t2⟩ := htn k hlt
        obtain ⟨⟨b1, b2⟩, b3, b4⟩ := note_bd hn hl hp hlt
        have hv := vol_bd hn hl
        have m1 := mul_bd (show 0 ≤ t.T.getD k 0 + t.far ∧ t.T.getD k 0 + t.far ≤ 2000 by omega) hv
        have m2 : -2359296000 ≤ (t.T.getD k 0 - t.far) * volF l n ∧ (t.T.getD k 0 - t.far) * volF l n ≤ 2359296000 := by
          have e1 := mul_bd (show 0 ≤ t.T.getD k 0 ∧ t.T.getD k 0 ≤ 1000 by omega) hv
          have e2 := mul_bd (show 0 ≤ t.far ∧ t.far ≤ 1000 by omega) hv
          rw [Int.sub_mul]
          omega
        have hlen := PF_len (l := l) (n := n) k
        have fin : ∀ (b' : Bool) (x : Sp), b' = KF l t n b (k + 1) → x = ownF l n k → RoundQ (fun k : Nat => VB4 l t n y (volF l n) a1 k) (fun k => BB n (volF l n) c a2 (PF l n k) (KF l t n b k)) (fun k => k ≤ t.T.length) (fun k => t.T.length - k) (outB l t n y c a1 a2 b) k .normal (VB4 l t n y (volF l n) a1 (k + 1)) [faN n, zB, .cells [I (volF l n), I c, I a2, .sl 3 ((PF l n k).length + 1), .bool b'] 49, .vec ((PF l n k).length + 1) (catG (PF l n k).length (spG (PF l n k)) fun j => List.take 2 (List.drop (j * 2) [I x.lo, I x.hi])) 2 34] := by
          rintro b' x rfl rfl
          refine ⟨k + 1, by omega, by dsimp only; omega, rfl, ?_, fun _ _ _ h => h⟩
          have e : PF l n (k + 1) = PF l n k ++ [ownF l n k] := rfl
          dsimp only
          unfold BB
          rw [e]
          refine ⟨VB.fit_refl _, VB.fit_refl _, ?_, fit_sp, trivial⟩
          show _ = _
          rw [List.length_append]
          rfl
        have tail : ∀ b', b' = KF l t n b (k + 1) → (bif decide (volF l n > 0) then (bif decide (volF l n = 0) then False else bif inK .i64 (quoZ (loF l n k) (volF l n)) then (bif inK .i64 (hiF l n k + volF l n) then (bif inK .i64 (hiF l n k + volF l n - 1) then (bif decide (volF l n = 0) then False else bif inK .i64 (quoZ (hiF l n k + volF l n - 1) (volF l n)) then (bif (PF l n k).length.beq (PF l n k).length then (bif roomB ((PF l n k).length + 1) 16 then (bif inK .i64 ((k : Int) + 1) then RoundQ (fun k : Nat => VB4 l t n y (volF l n) a1 k) (fun k => BB n (volF l n) c a2 (PF l n k) (KF l t n b k)) (fun k => k ≤ t.T.length) (fun k => t.T.length - k) (outB l t n y c a1 a2 b) k .normal (VB4 l t n y (volF l n) a1 (k + 1)) [faN n, zB, .cells [I (volF l n), I c, I a2, .sl 3 ((PF l n k).length + 1), .bool b'] 49, .vec ((PF l n k).length + 1) (catG (PF l n k).length (spG (PF l n k)) fun j => List.take 2 (List.drop (j * 2) [I (quoZ (loF l n k) (volF l n)), I (quoZ (hiF l n k + volF l n - 1) (volF l n))])) 2 34] else False) else False) else False) else False) else False) else False) else False)
            else bif (PF l n k).length.beq (PF l n k).length then (bif roomB ((PF l n k).length + 1) 16 then (bif inK .i64 ((k : Int) + 1) then RoundQ (fun k : Nat => VB4 l t n y (volF l n) a1 k) (fun k => BB n (volF l n) c a2 (PF l n k) (KF l t n b k)) (fun k => k ≤ t.T.length) (fun k => t.T.length - k) (outB l t n y c a1 a2 b) k .normal (VB4 l t n y (volF l n) a1 (k + 1)) [faN n, zB, .cells [I (volF l n), I c, I a2, .sl 3 ((PF l n k).length + 1), .bool b'] 49, .vec ((PF l n k).length + 1) (catG (PF l n k).length (spG (PF l n k)) fun j => List.take 2 (List.drop (j * 2) [I 0, I 0])) 2 34] else False) else False) else False) := by
          intro b' hb'
          refine cond_d (fun hv0 => cond_d (fun h => by omega) (fun _ => ?_)) (fun hv0 => cond_k (Nat.beq_refl _) (cond_k (room16 (by omega)) (cond_r (by omega) (fin b' ⟨0, 0⟩ hb' (by unfold ownF; rw [if_neg hv0])))))
          have q1 := quo_bd (a := loF l n k) (b := volF l n) ⟨b1, b2⟩ (by omega)
          have q2 := quo_bd (a := hiF l n k + volF l n - 1) (b := volF l n) (M := 2361655296) ⟨by omega, by omega⟩ (by omega)
          exact cond_r (by omega) (cond_r (by omega) (cond_r (by omega) (cond_d (fun h => by omega) (fun _ => cond_r (by omega) (cond_k (Nat.beq_refl _) (cond_k (room16 (by omega)) (cond_r (by omega) (fin b' ⟨quoZ (loF l n k) (volF l n), quoZ (hiF l n k + volF l n - 1) (volF l n)⟩ hb' (by unfold ownF; rw [if_pos hv0])))))))))
        refine cond_dk (by omega) (cond_dk ⟨by omega, by omega⟩ ⟨l, t, n, k, t.T.length, rfl, rfl, rfl, ⟨hn, hl, hp, hlt⟩, ?_⟩)
        rw [show (k : Int).toNat = k by omega]
        have hK : KF l t n b (k + 1) = (KF l t n b k && okF l t n k) := rfl
        refine cond_r (by omega) (cond_r (by omega) (cond_d (fun g1 => tail _ ?_) (fun g1 => cond_r (by omega) (cond_r (by omega) (cond_d (fun g2 => tail _ ?_) (fun g2 => tail _ ?_))))))
        · rw [hK]; unfold okF; rw [decide_eq_true g1]; simp
        · rw [hK]; unfold okF; rw [decide_eq_true g2]; simp
        · rw [hK]; unfold okF; rw [decide_eq_false g1, decide_eq_false g2]; simp
      · obtain rfl : k = t.T.length := by omega
        exact cond_d (fun h => by omega) (fun _ => ⟨rfl, rfl, rfl⟩)
    · rintro lock tt h K ⟨hf, _, k1⟩
      refine ⟨0, hf, Nat.zero_le _, ?_⟩
      rintro e vs bs ⟨rfl, rfl, rfl⟩
      exact k1
  · rintro lock tt h K ⟨hf, hc, _⟩
    exact (hh hc).elim

theorem lBl_ok : LSound Try.prog true (.block 0 (.loop (loopB 0 (bodyOf Try.prog 54)))) 104 (lBl l t n y c a1 a2 b) :=
  ghost_cells_row (m := 2) (nx := 3) (cs := [I (volF l n), I c, I a2, .nils, .bool b]) (cs' := [I (volF l n), I c, I a2, .sl 3 0, .bool b]) (ty := 49)
    (bs := [0, 1, 2].zip [faN n, zB, .cells [I (volF l n), I c, I a2, .nils, .bool b] 49]) (t0 := dsB.zip (VB4 l t n y (volF l n) a1 0))
    (spG []) 2 34 lBs_ok rfl (fun R xs hv hx => by
      obtain ⟨a0, _, k0, ⟨x1, _, k1, ⟨x2, _, k2, ⟨x3, _, k3, k4, rfl⟩, rfl⟩, rfl⟩, rfl⟩ := hx
      exact ⟨_, _, k0, ⟨_, _, k1, ⟨_, _, k2, ⟨_, _, nil_ghost hv k3, k4, rfl⟩, rfl⟩, rfl⟩, rfl⟩) (by
      rintro lock tt h K ⟨hf, hi, hK⟩
      exact ⟨hf, ⟨⟨rfl, rfl, VB.fit_refl _, VB.fit_refl _, VB.fit_refl _, VB.fit_refl _, trivial⟩, rfl, rfl, rfl, rfl, rfl, rfl, rfl, rfl, rfl, rfl, rfl, trivial⟩, hi, hK⟩)
end
end Go.Sx.Bln

/- blend: a blend, as a row. -/

namespace Go.Sx.Bln
open Go Go.Sx Go.Proofs
set_option maxRecDepth 1000000

/-- A blend. -/
structure Vt where
  v : Int
  c : Int
  a : Int
  P : List Sp
  k : Bool
def vtF (l : List Stk) (t : Tst) (n : Nat → Int) (y : Int) : Vt :=
  ⟨volF l n, costF l n, max 0 (ageF l n y l.length), PF l n t.T.length, KF l t n (decide (volF l n > 0) && decide (ageF l n y l.length ≥ t.least)) t.T.length⟩
def vtV (V : Vt) (m : Nat) : VV := .agg [I V.v, I V.c, I V.a, .sl m V.P.length, .bool V.k]
def vtB (V : Vt) : VB := .vec V.P.length (spG V.P) 2 34

theorem c4_tab : ∀ f T, tabS [volT, costT, notesT, ageT] f = some T → SpOk Try.prog f T := tab_ok _ (fun x hx => by
  simp only [List.mem_cons, List.not_mem_nil, or_false] at hx
  rcases hx with rfl | rfl | rfl | rfl
  · exact volT_ok
  · exact costT_ok
  · exact notesT_ok
  · exact ageT_ok)

theorem calls_lendDO {P : Program} {f : FuncId} {args args' : List VV} {h hm' : VH} {r : VRes} {b : VB} (n o : Nat) (hs : CallsV P f args ⟨0, []⟩ r hm') (h0 : hm'.at o = b) (h1 : ∀ i, hm'.at (o + (i + 1)) = .free) (hr : r.flat o = true) (hbl : b.flat) (ha : isDL h n args' args) :
    CallsV P f args' h (r.sh o h.nx) (h.new b) :=
  calls_lendD n o hs (bl := [b]) (fun i => by
    match i with
    | 0 => exact h0
    | i + 1 => exact h1 i) hr (fun c hc => by
    simp only [List.mem_singleton] at hc
    subst hc
    exact hbl) ha

theorem blend_v {l : List Stk} {t : Tst} {n : Nat → Int} {y : Int} (hh : conB l t n) (hy : 0 ≤ y ∧ y ≤ 1000) : ∃ h', CallsV Try.prog 54 [.tp (stD l :: tsL t), .agg (nL n), I y] ⟨0, []⟩ (.ret (vtV (vtF l t n y) 3)) h' ∧ h'.at 3 = vtB (vtF l t n y) ∧ ∀ i, h'.at (3 + (i + 1)) = .free := by
  have hall : LoopsOk Try.prog 54 [(0, lBl l t n y (costF l n) (ageF l n y l.length) (max 0 (ageF l n y l.length)) (decide (volF l n > 0) && decide (ageF l n y l.length ≥ t.least)))] := fun x hx => by
    simp only [List.mem_singleton] at hx
    subst hx
    exact ⟨by kernel_rfl, lBl_ok⟩
  obtain ⟨r, h', ⟨rfl, h1, h2⟩, hc⟩ := of_callN (callL_good hmix c4_tab hall (un := 10) 20) (f := 54) (args := [.tp (stD l :: tsL t), .agg (nL n), I y]) (h := ⟨0, []⟩) (K := fun r h' => r = .ret (vtV (vtF l t n y) 3) ∧ h'.at 3 = vtB (vtF l t n y) ∧ ∀ i, h'.at (3 + (i + 1)) = .free) (by
    refine cast (blf_ev l t n y _ _ _ _ _).symm ?_
    refine ⟨l, t, n, rfl, rfl, hh.1, hh.2.1, l, t, n, rfl, rfl, ⟨hh.1, hh.2.1, hy⟩, l, t, n, rfl, rfl, hh.1, hh.2.1, ?_⟩
    refine cond_d (fun hv => ?_) (fun hv => ?_)
    · refine ⟨⟨⟨rfl, rfl, VB.fit_refl _, VB.fit_refl _, ?_, trivial⟩, rfl, rfl, rfl, rfl, rfl, rfl, rfl, rfl, rfl, rfl, rfl, trivial⟩, hh, rfl, rfl, fun i => at_ge (by show ¬ 3 + (i + 1) < 4; omega)⟩
      have hv : decide (volF l n > 0) = true := decide_eq_true hv
      rw [hv]
      exact VB.fit_refl _
    · refine ⟨⟨⟨rfl, rfl, VB.fit_refl _, VB.fit_refl _, ?_, trivial⟩, rfl, rfl, rfl, rfl, rfl, rfl, rfl, rfl, rfl, rfl, rfl, trivial⟩, hh, rfl, rfl, fun i => at_ge (by show ¬ 3 + (i + 1) < 4; omega)⟩
      have hv : decide (volF l n > 0) = false := decide_eq_false hv
      rw [hv]
      exact VB.fit_refl _)
  exact ⟨h', hc, h1, h2⟩

/-- A blend, as a row. -/
def blT : FuncId × Spec1 := (54, fun _ args h K => match args with
  | [c, .agg ns, .int .i64 y] => ∃ (l : List Stk) (t : Tst) (n : Nat → Int), isD h 4 c (.tp (stD l :: tsL t)) ∧ ns = nL n ∧ (conB l t n ∧ 0 ≤ y ∧ y ≤ 1000) ∧ ∀ V, V = vtF l t n y → K (.ret (vtV V h.nx)) (h.new (vtB V))
  | _ => False)
theorem blT_ok : SpOk Try.prog blT.1 blT.2 := by
  intro lock args h K hK
  simp only [blT] at hK
  split at hK
  · rename_i c ns y
    obtain ⟨l, t, n, hc, rfl, ⟨hh, hy⟩, hK⟩ := hK
    obtain ⟨h', hv, h1, h2⟩ := blend_v hh hy
    have := calls_lendDO (args' := [c, .agg (nL n), I y]) (h := h) 4 3 hv h1 h2 rfl (fun i hi => rfl) ⟨hc, isD_nL, ⟨rfl, rfl⟩, trivial⟩
    have e : (VRes.ret (vtV (vtF l t n y) 3)).sh 3 h.nx = .ret (vtV (vtF l t n y) h.nx) := by
      simp [VRes.sh, vtV, VV.sh, shL, shN]
    rw [e] at this
    exact ⟨_, _, hK _ rfl, lockP_new _ _ _, this⟩
  · exact hK.elim
end Go.Sx.Bln

/- blend: Blend, evaluated. -/

namespace Go.Sx.Bln
open Go Go.Sx Go.Proofs
set_option maxRecDepth 1000000

theorem of_ev (D : List Int) (Q : VRes → Prop) : callN Try.prog noSpec noL 10 20 0 (.fn 55) [inD D] ⟨0, []⟩ (fun r h => Q r) =
  ((∀ (j : Nat), j < min D.length ((↑6 : Int) - (0 : Int)).toNat → dG D j = [I (intV (dG D j))]) ∧ Q (VRes.ret (VV.agg [I (setF (setF (fun x => (0 : Int)) (Int.toNat (0 : Int) * (1)) (intsL (dG D) (min D.length ((↑6 : Int) - (0 : Int)).toNat))) 0 [setF (fun x => (0 : Int)) (Int.toNat (0 : Int) * (1)) (intsL (dG D) (min D.length ((↑6 : Int) - (0 : Int)).toNat)) (0 + 0), setF (fun x => (0 : Int)) (Int.toNat (0 : Int) * (1)) (intsL (dG D) (min D.length ((↑6 : Int) - (0 : Int)).toNat)) (0 + 1), setF (fun x => (0 : Int)) (Int.toNat (0 : Int) * (1)) (intsL (dG D) (min D.length ((↑6 : Int) - (0 : Int)).toNat)) (0 + 2), setF (fun x => (0 : Int)) (Int.toNat (0 : Int) * (1)) (intsL (dG D) (min D.length ((↑6 : Int) - (0 : Int)).toNat)) (0 + 3), setF (fun x => (0 : Int)) (Int.toNat (0 : Int) * (1)) (intsL (dG D) (min D.length ((↑6 : Int) - (0 : Int)).toNat)) (0 + 4), setF (fun x => (0 : Int)) (Int.toNat (0 : Int) * (1)) (intsL (dG D) (min D.length ((↑6 : Int) - (0 : Int)).toNat)) (0 + 5)] (0 + 0)), I (setF (setF (fun x => (0 : Int)) (Int.toNat (0 : Int) * (1)) (intsL (dG D) (min D.length ((↑6 : Int) - (0 : Int)).toNat))) 0 [setF (fun x => (0 : Int)) (Int.toNat (0 : Int) * (1)) (intsL (dG D) (min D.length ((↑6 : Int) - (0 : Int)).toNat)) (0 + 0), setF (fun x => (0 : Int)) (Int.toNat (0 : Int) * (1)) (intsL (dG D) (min D.length ((↑6 : Int) - (0 : Int)).toNat)) (0 + 1), setF (fun x => (0 : Int)) (Int.toNat (0 : Int) * (1)) (intsL (dG D) (min D.length ((↑6 : Int) - (0 : Int)).toNat)) (0 + 2), setF (fun x => (0 : Int)) (Int.toNat (0 : Int) * (1)) (intsL (dG D) (min D.length ((↑6 : Int) - (0 : Int)).toNat)) (0 + 3), setF (fun x => (0 : Int)) (Int.toNat (0 : Int) * (1)) (intsL (dG D) (min D.length ((↑6 : Int) - (0 : Int)).toNat)) (0 + 4), setF (fun x => (0 : Int)) (Int.toNat (0 : Int) * (1)) (intsL (dG D) (min D.length ((↑6 : Int) - (0 : Int)).toNat)) (0 + 5)] (0 + 1)), I (setF (setF (fun x => (0 : Int)) (Int.toNat (0 : Int) * (1)) (intsL (dG D) (min D.length ((↑6 : Int) - (0 : Int)).toNat))) 0 [setF (fun x => (0 : Int)) (Int.toNat (0 : Int) * (1)) (intsL (dG D) (min D.length ((↑6 : Int) - (0 : Int)).toNat)) (0 + 0), setF (fun x => (0 : Int)) (Int.toNat (0 : Int) * (1)) (intsL (dG D) (min D.length ((↑6 : Int) - (0 : Int)).toNat)) (0 + 1), setF (fun x => (0 : Int)) (Int.toNat (0 : Int) * (1)) (intsL (dG D) (min D.length ((↑6 : Int) - (0 : Int)).toNat)) (0 + 2), setF (fun x => (0 : Int)) (Int.toNat (0 : Int) * (1)) (intsL (dG D) (min D.length ((↑6 : Int) - (0 : Int)).toNat)) (0 + 3), setF (fun x => (0 : Int)) (Int.toNat (0 : Int) * (1)) (intsL (dG D) (min D.length ((↑6 : Int) - (0 : Int)).toNat)) (0 + 4), setF (fun x => (0 : Int)) (Int.toNat (0 : Int) * (1)) (intsL (dG D) (min D.length ((↑6 : Int) - (0 : Int)).toNat)) (0 + 5)] (0 + 2)), I (setF (setF (fun x => (0 : Int)) (Int.toNat (0 : Int) * (1)) (intsL (dG D) (min D.length ((↑6 : Int) - (0 : Int)).toNat))) 0 [setF (fun x => (0 : Int)) (Int.toNat (0 : Int) * (1)) (intsL (dG D) (min D.length ((↑6 : Int) - (0 : Int)).toNat)) (0 + 0), setF (fun x => (0 : Int)) (Int.toNat (0 : Int) * (1)) (intsL (dG D) (min D.length ((↑6 : Int) - (0 : Int)).toNat)) (0 + 1), setF (fun x => (0 : Int)) (Int.toNat (0 : Int) * (1)) (intsL (dG D) (min D.length ((↑6 : Int) - (0 : Int)).toNat)) (0 + 2), setF (fun x => (0 : Int)) (Int.toNat (0 : Int) * (1)) (intsL (dG D) (min D.length ((↑6 : Int) - (0 : Int)).toNat)) (0 + 3), setF (fun x => (0 : Int)) (Int.toNat (0 : Int) * (1)) (intsL (dG D) (min D.length ((↑6 : Int) - (0 : Int)).toNat)) (0 + 4), setF (fun x => (0 : Int)) (Int.toNat (0 : Int) * (1)) (intsL (dG D) (min D.length ((↑6 : Int) - (0 : Int)).toNat)) (0 + 5)] (0 + 3)), I (setF (setF (fun x => (0 : Int)) (Int.toNat (0 : Int) * (1)) (intsL (dG D) (min D.length ((↑6 : Int) - (0 : Int)).toNat))) 0 [setF (fun x => (0 : Int)) (Int.toNat (0 : Int) * (1)) (intsL (dG D) (min D.length ((↑6 : Int) - (0 : Int)).toNat)) (0 + 0), setF (fun x => (0 : Int)) (Int.toNat (0 : Int) * (1)) (intsL (dG D) (min D.length ((↑6 : Int) - (0 : Int)).toNat)) (0 + 1), setF (fun x => (0 : Int)) (Int.toNat (0 : Int) * (1)) (intsL (dG D) (min D.length ((↑6 : Int) - (0 : Int)).toNat)) (0 + 2), setF (fun x => (0 : Int)) (Int.toNat (0 : Int) * (1)) (intsL (dG D) (min D.length ((↑6 : Int) - (0 : Int)).toNat)) (0 + 3), setF (fun x => (0 : Int)) (Int.toNat (0 : Int) * (1)) (intsL (dG D) (min D.length ((↑6 : Int) - (0 : Int)).toNat)) (0 + 4), setF (fun x => (0 : Int)) (Int.toNat (0 : Int) * (1)) (intsL (dG D) (min D.length ((↑6 : Int) - (0 : Int)).toNat)) (0 + 5)] (0 + 4)), I (setF (setF (fun x => (0 : Int)) (Int.toNat (0 : Int) * (1)) (intsL (dG D) (min D.length ((↑6 : Int) - (0 : Int)).toNat))) 0 [setF (fun x => (0 : Int)) (Int.toNat (0 : Int) * (1)) (intsL (dG D) (min D.length ((↑6 : Int) - (0 : Int)).toNat)) (0 + 0), setF (fun x => (0 : Int)) (Int.toNat (0 : Int) * (1)) (intsL (dG D) (min D.length ((↑6 : Int) - (0 : Int)).toNat)) (0 + 1), setF (fun x => (0 : Int)) (Int.toNat (0 : Int) * (1)) (intsL (dG D) (min D.length ((↑6 : Int) - (0 : Int)).toNat)) (0 + 2), setF (fun x => (0 : Int)) (Int.toNat (0 : Int) * (1)) (intsL (dG D) (min D.length ((↑6 : Int) - (0 : Int)).toNat)) (0 + 3), setF (fun x => (0 : Int)) (Int.toNat (0 : Int) * (1)) (intsL (dG D) (min D.length ((↑6 : Int) - (0 : Int)).toNat)) (0 + 4), setF (fun x => (0 : Int)) (Int.toNat (0 : Int) * (1)) (intsL (dG D) (min D.length ((↑6 : Int) - (0 : Int)).toNat)) (0 + 5)] (0 + 5))]))) := by kernel_rfl

/-- A list as a choice, as a row. -/
def ofT : FuncId × Spec1 := (55, fun _ args h K => match args with
  | [x] => ∃ D : List Int, isD h 1 x (inD D) ∧ D.length ≤ 6 ∧ K (.ret (.agg (nL (fun i => D.getD i 0)))) h
  | _ => False)
def dsN2 : List Nat := [31, 30, 29, 9, 8, 5, 0, 1, 2, 3]
def VN2 (l : List Stk) (t : Tst) (y : Int) (D : List Int) (i : Int) : List VV := [I i, I l.length, stD l, I 0, .ptr (.own 1 0), .ptr (.own 0 0), stD l, .agg (tsL t), I y, inD D]
def BN2 (t : Tst) : List VB := [.cells (tsL t) 25, zB]
theorem bn_ev (l : List Stk) (t : Tst) (y i : Int) (D : List Int) (X : VEx → List VV → List VB → Prop) : codeE Try.prog (callN Try.prog noSpec noL 10 20) (fun _ => none) true 10 (ntOf Try.prog 24) 0 (loopB 0 (bodyOf Try.prog 24)) (dsN2.zip (VN2 l t y D i)) ⟨2, [0, 1].zip (BN2 t)⟩ (obs 2 dsN2 [0, 1] X) =
  (bif decide (i < (↑l.length : Int)) then
 bif decide ((0 : Int) ≤ i ∧ i < (↑l.length : Int)) then
 bif decide ((0 : Int) ≤ i ∧ i < (↑D.length : Int)) then
 bif decide ((0 : Int) ≤ D.getD i.toNat (0 : Int)) then
 bif !decide (D.getD i.toNat (0 : Int) ≤ (l.getD i.toNat k0).casks) then
 X VEx.ret [I i, I (↑l.length : Int), VV.tl l.length 5 (stG l), I 2, VV.ptr (VA.own 1 0), VV.ptr (VA.own 0 0), VV.tl l.length 5 (stG l), VV.agg [VV.tl t.T.length 1 (dG t.T), I t.far, I t.least], I y, VV.tl D.length 1 (dG D)] [VB.cells [VV.tl t.T.length 1 (dG t.T), I t.far, I t.least] (25 : TypeId), VB.cells [I 0, I 0, I 0, VV.nils, VV.bool false] (49 : TypeId)]
 else bif inK IntKind.i64 (i + (1 : Int)) then
 X VEx.normal [I (i + (1 : Int)), I (↑l.length : Int), VV.tl l.length 5 (stG l), I 0, VV.ptr (VA.own 1 0), VV.ptr (VA.own 0 0), VV.tl l.length 5 (stG l), VV.agg [VV.tl t.T.length 1 (dG t.T), I t.far, I t.least], I y, VV.tl D.length 1 (dG D)] [VB.cells [VV.tl t.T.length 1 (dG t.T), I t.far, I t.least] (25 : TypeId), VB.cells [I 0, I 0, I 0, VV.nils, VV.bool false] (49 : TypeId)]
 else False
 else X VEx.ret [I i, I (↑l.length : Int), VV.tl l.length 5 (stG l), I 2, VV.ptr (VA.own 1 0), VV.ptr (VA.own 0 0), VV.tl l.length 5 (stG l), VV.agg [VV.tl t.T.length 1 (dG t.T), I t.far, I t.least], I y, VV.tl D.length 1 (dG D)] [VB.cells [VV.tl t.T.length 1 (dG t.T), I t.far, I t.least] (25 : TypeId), VB.cells [I 0, I 0, I 0, VV.nils, VV.bool false] (49 : TypeId)]
 else False
 else False
 else X (VEx.exit 0) [I i, I (↑l.length : Int), VV.tl l.length 5 (stG l), I 0, VV.ptr (VA.own 1 0), VV.ptr (VA.own 0 0), VV.tl l.length 5 (stG l), VV.agg [VV.tl t.T.length 1 (dG t.T), I t.far, I t.least], I y, VV.tl D.length 1 (dG D)] [VB.cells [VV.tl t.T.length 1 (dG t.T), I t.far, I t.least] (25 : TypeId), VB.cells [I 0, I 0, I 0, VV.nils, VV.bool false] (49 : TypeId)]) := by kernel_rfl

def okC (l : List Stk) (D : List Int) (i : Nat) : Bool := decide (0 ≤ D.getD i 0 ∧ D.getD i 0 ≤ (l.getD i k0).casks)
def okCh (l : List Stk) (D : List Int) : Bool := (List.range l.length).all (okC l D)
def lN2 (l : List Stk) (t : Tst) (y : Int) (D : List Int) : LT := fun lock tt h K =>
  FitP lock h tt ⟨2, [0, 1].zip (BN2 t)⟩ (dsN2.zip (VN2 l t y D 0)) ∧ (l.length ≤ 6 ∧ D.length = l.length) ∧ (okCh l D = true → K .normal (dsN2.zip (VN2 l t y D l.length)) ⟨2, [0, 1].zip (BN2 t)⟩) ∧ (okCh l D = false → ∀ i : Int, K .ret (dsN2.zip [I i, I l.length, stD l, I 2, .ptr (.own 1 0), .ptr (.own 0 0), stD l, .agg (tsL t), I y, inD D]) ⟨2, [0, 1].zip (BN2 t)⟩)
theorem bd_ev (l : List Stk) (t : Tst) (y : Int) (D : List Int) (Q : VRes → VH → Prop) : callN Try.prog (tabS [asT, ofT, blT]) (atF 24 [(0, lN2 l t y D)]) 10 20 0 (.fn 24) [stD l, .agg (tsL t), I y, inD D] ⟨0, []⟩ (fun r h => Q r h) =
  (∃ (l_1 : List Stk) (t_1 : Tst), isD (VH.mk (2) [(1, VB.cells [I 0, I 0, I 0, VV.nils, VV.bool false] 49), (0, VB.cells [VV.tl t.T.length 1 (dG t.T), I t.far, I t.least] 25)]) 2 (VV.tl l.length 5 (stG l)) (stD l_1) ∧ isD (VH.mk (2) [(1, VB.cells [I 0, I 0, I 0, VV.nils, VV.bool false] 49), (0, VB.cells [VV.tl t.T.length 1 (dG t.T), I t.far, I t.least] 25)]) 2 (VV.agg [VV.tl t.T.length 1 (dG t.T), I t.far, I t.least]) (VV.agg (tsL t_1)) ∧ bif !okAll l_1 t_1 then
 Q (VRes.ret (VV.tup [VV.agg [I 0, I 0, I 0, VV.nils, VV.bool false], I 1])) (VH.mk (2) [(1, VB.cells [I 0, I 0, I 0, VV.nils, VV.bool false] 49), (1, VB.cells [I 0, I 0, I 0, VV.nils, VV.bool false] 49), (0, VB.cells [VV.tl t.T.length 1 (dG t.T), I t.far, I t.least] 25)])
 else bif decide ((0 : Int) ≤ y) then
 bif !decide (y ≤ (100 : Int)) then
 Q (VRes.ret (VV.tup [VV.agg [I 0, I 0, I 0, VV.nils, VV.bool false], I 2])) (VH.mk (2) [(1, VB.cells [I 0, I 0, I 0, VV.nils, VV.bool false] 49), (1, VB.cells [I 0, I 0, I 0, VV.nils, VV.bool false] 49), (0, VB.cells [VV.tl t.T.length 1 (dG t.T), I t.far, I t.least] 25)])
 else bif !decide ((↑D.length : Int) = (↑l.length : Int)) then
 Q (VRes.ret (VV.tup [VV.agg [I 0, I 0, I 0, VV.nils, VV.bool false], I 2])) (VH.mk (2) [(1, VB.cells [I 0, I 0, I 0, VV.nils, VV.bool false] 49), (1, VB.cells [I 0, I 0, I 0, VV.nils, VV.bool false] 49), (0, VB.cells [VV.tl t.T.length 1 (dG t.T), I t.far, I t.least] 25)])
 else FitP 0 (VH.mk 2 ([0, 1].zip (BN2 t))) (dsN2.zip (VN2 l t y D (0 : Int))) (VH.mk 2 ([0, 1].zip (BN2 t))) (dsN2.zip (VN2 l t y D (0 : Int))) ∧ (l.length ≤ 6 ∧ D.length = l.length) ∧ (okCh l D = true → ∃ (D_1 : List Int), isD (VH.mk (3) ((2, VB.cells [VV.tl l.length 5 (stG l), VV.tl t.T.length 1 (dG t.T), I t.far, I t.least] 74) :: [0, 1].zip (BN2 t))) 1 (VV.tl D.length 1 (dG D)) (inD D_1) ∧ D_1.length ≤ 6 ∧ ∃ (l_2 : List Stk) (t_2 : Tst) (n : Nat → Int), isD (VH.mk (3) ((2, VB.cells [VV.tl l.length 5 (stG l), VV.tl t.T.length 1 (dG t.T), I t.far, I t.least] 74) :: [0, 1].zip (BN2 t))) 4 (VV.ptr (VA.own (2) 0)) (VV.tp (stD l_2 :: tsL t_2)) ∧ (nL fun i => D_1.getD i (0 : Int)) = nL n ∧ (conB l_2 t_2 n ∧ (0 : Int) ≤ y ∧ y ≤ (1000 : Int)) ∧ ∀ (V : Vt), V = vtF l_2 t_2 n y → Q (VRes.ret (VV.tup [VV.agg [I V.v, I V.c, I V.a, VV.sl (VH.mk (3) ((2, VB.cells [VV.tl l.length 5 (stG l), VV.tl t.T.length 1 (dG t.T), I t.far, I t.least] 74) :: [0, 1].zip (BN2 t))).nx V.P.length, VV.bool V.k], I 0])) (VH.mk ((VH.mk (3) ((2, VB.cells [VV.tl l.length 5 (stG l), VV.tl t.T.length 1 (dG t.T), I t.far, I t.least] 74) :: [0, 1].zip (BN2 t))).nx + 1) [(1, VB.cells [I V.v, I V.c, I V.a, VV.sl (VH.mk (3) ((2, VB.cells [VV.tl l.length 5 (stG l), VV.tl t.T.length 1 (dG t.T), I t.far, I t.least] 74) :: [0, 1].zip (BN2 t))).nx V.P.length, VV.bool V.k] (49 : TypeId)), ((VH.mk (3) ((2, VB.cells [VV.tl l.length 5 (stG l), VV.tl t.T.length 1 (dG t.T), I t.far, I t.least] 74) :: [0, 1].zip (BN2 t))).nx, VB.vec V.P.length (spG V.P) 2 (34 : TypeId)), (2, VB.cells [VV.tl l.length 5 (stG l), VV.tl t.T.length 1 (dG t.T), I t.far, I t.least] 74), (0, VB.cells [VV.tl t.T.length 1 (dG t.T), I t.far, I t.least] (25 : TypeId)), (1, VB.cells [I 0, I 0, I 0, VV.nils, VV.bool false] (49 : TypeId))])) ∧ (okCh l D = false → ∀ (i : Int), Q (VRes.ret (VV.tup [VV.agg [I 0, I 0, I 0, VV.nils, VV.bool false], I 2])) (VH.mk 2 [(0, VB.cells [VV.tl t.T.length 1 (dG t.T), I t.far, I t.least] (25 : TypeId)), (1, VB.cells [I 0, I 0, I 0, VV.nils, VV.bool false] (49 : TypeId))]))
 else Q (VRes.ret (VV.tup [VV.agg [I 0, I 0, I 0, VV.nils, VV.bool false], I 2])) (VH.mk (2) [(1, VB.cells [I 0, I 0, I 0, VV.nils, VV.bool false] 49), (1, VB.cells [I 0, I 0, I 0, VV.nils, VV.bool false] 49), (0, VB.cells [VV.tl t.T.length 1 (dG t.T), I t.far, I t.least] 25)])) := by kernel_rfl

end Go.Sx.Bln

/- blend: Blend. -/

namespace Go.Sx.Bln
open Go Go.Sx Go.Proofs
set_option maxRecDepth 1000000

theorem setF_get (g : Nat → Int) (o : Nat) (ns : List Int) (k : Nat) : setF g o ns k = if o ≤ k ∧ k < o + ns.length then ns.getD (k - o) 0 else g k := by
  match ns with
  | [] =>
    show (bif (Nat.ble o k && Nat.blt k (o + 0)) then _ else g k) = _
    rw [if_neg (by simp only [List.length_nil]; omega)]
    by_cases h1 : o ≤ k
    · rw [Nat.ble_eq_true_of_le h1, blt_f (by omega)]
      rfl
    · have : Nat.ble o k = false := by
        cases hb : Nat.ble o k with
        | false => rfl
        | true => exact (h1 (Nat.le_of_ble_eq_true hb)).elim
      rw [this]
      rfl
  | [x] =>
    show (bif Nat.beq k o then x else g k) = _
    by_cases h : k = o
    · subst h
      rw [Nat.beq_refl, if_pos (by simp)]
      simp
    · rw [beq_f h, if_neg (by simp; omega)]
      rfl
  | x :: y :: r =>
    show (bif (Nat.ble o k && Nat.blt k (o + (x :: y :: r).length)) then (x :: y :: r).getD (k - o) 0 else g k) = _
    by_cases h : o ≤ k ∧ k < o + (x :: y :: r).length
    · rw [if_pos h, Nat.ble_eq_true_of_le h.1, blt_t h.2]
      rfl
    · rw [if_neg h]
      by_cases h1 : o ≤ k
      · rw [Nat.ble_eq_true_of_le h1, blt_f (by omega)]
        rfl
      · have : Nat.ble o k = false := by
          cases hb : Nat.ble o k with
          | false => rfl
          | true => exact (h1 (Nat.le_of_ble_eq_true hb)).elim
        rw [this]
        rfl

theorem ints_get {D : List Int} {m j : Nat} (h : j < m) : (intsL (dG D) m).getD j 0 = D.getD j 0 := by
  unfold intsL
  rw [List.getD_eq_getElem?_getD, List.getElem?_map, List.getElem?_range h]
  rfl
theorem of_get {D : List Int} (hD : D.length ≤ 6) (k : Nat) (hk : k < 6) : setF (fun _ => (0 : Int)) 0 (intsL (dG D) (min D.length 6)) k = D.getD k 0 := by
  rw [setF_get]
  have hl : (intsL (dG D) (min D.length 6)).length = min D.length 6 := by simp [intsL]
  rw [hl]
  split
  · rw [Nat.sub_zero, ints_get (by omega)]
  · rw [List.getD_eq_getElem?_getD, List.getElem?_eq_none (by omega)]
    rfl

theorem of_v {D : List Int} (hD : D.length ≤ 6) : ∃ h', CallsV Try.prog 55 [inD D] ⟨0, []⟩ (.ret (.agg (nL (fun i => D.getD i 0)))) h' := by
  obtain ⟨r, h', rfl, hc⟩ := of_callN good0 (f := 55) (args := [inD D]) (h := ⟨0, []⟩) (K := fun r _ => r = .ret (.agg (nL (fun i => D.getD i 0)))) (by
    refine cast (of_ev D _).symm ⟨fun j _ => rfl, ?_⟩
    have e : nL (fun i => D.getD i 0) = nL (setF (fun _ => (0 : Int)) 0 (intsL (dG D) (min D.length 6))) := by
      simp only [nL, of_get hD 0 (by omega), of_get hD 1 (by omega), of_get hD 2 (by omega), of_get hD 3 (by omega), of_get hD 4 (by omega), of_get hD 5 (by omega)]
    rw [e]
    rfl)
  exact ⟨h', hc⟩
theorem ofT_ok : SpOk Try.prog ofT.1 ofT.2 := by
  intro lock args h K hK
  simp only [ofT] at hK
  split at hK
  · obtain ⟨D, hx, hD, hK⟩ := hK
    obtain ⟨h', hc⟩ := of_v hD
    exact ⟨_, h, hK, lockP_refl _ _, calls_lendDP 1 hc rfl ⟨hx, trivial⟩⟩
  · exact hK.elim

theorem okT_tB {t : Tst} (h : okT t = true) : tB t := by
  unfold okT at h
  simp only [Bool.and_eq_true, decide_eq_true_eq, Bool.not_eq_true'] at h
  obtain ⟨⟨⟨h1, h2⟩, h3⟩, h4⟩ := h
  refine ⟨h1, fun k hk => ?_, h3, h4⟩
  unfold anyN at h2
  rw [List.any_eq_false] at h2
  have := h2 k (List.mem_range.2 hk)
  unfold qN okN at this
  simpa using this

theorem okCh_nB {l : List Stk} {D : List Int} (hl : lB l) (hD : D.length = l.length) (h : okCh l D = true) : nB (fun i => D.getD i 0) := fun i _ => by
  dsimp only
  by_cases hi : i < l.length
  · unfold okCh at h
    rw [List.all_eq_true] at h
    have := h i (List.mem_range.2 hi)
    unfold okC at this
    rw [decide_eq_true_eq] at this
    obtain ⟨⟨_, h2⟩, _⟩ := hl.2 i hi
    omega
  · rw [List.getD_eq_getElem?_getD, List.getElem?_eq_none (by omega)]
    decide

section
variable {l : List Stk} {t : Tst} {y : Int} {D : List Int}

def oN2 (l : List Stk) (t : Tst) (y : Int) (D : List Int) (_ : Nat) (e : VEx) (vs : List VV) (bs : List VB) : Prop :=
  bs = BN2 t ∧ ((okCh l D = true ∧ e = .exit 0 ∧ vs = VN2 l t y D l.length) ∨ (okCh l D = false ∧ e = .ret ∧ ∃ i : Int, vs = [I i, I l.length, stD l, I 2, .ptr (.own 1 0), .ptr (.own 0 0), stD l, .agg (tsL t), I y, inD D]))

theorem lN2_ok : LSound Try.prog true (.block 0 (.loop (loopB 0 (bodyOf Try.prog 24)))) (ntOf Try.prog 24) (lN2 l t y D) := by
  by_cases hh : l.length ≤ 6 ∧ D.length = l.length
  · obtain ⟨hl, hD⟩ := hh
    refine loop_row hmix good0 (un := 10) (ds := dsN2) (ns := [0, 1]) (nx := 2) (fun i : Nat => VN2 l t y D i) (fun _ => BN2 t) (fun i => i ≤ l.length ∧ ∀ j, j < i → okC l D j = true) (fun i => l.length - i) (oN2 l t y D) noL_ok ?_ ?_
    · rintro i ⟨h0, h1⟩
      refine cast (bn_ev l t y i D _).symm ?_
      by_cases hlt : i < l.length
      · refine cond_dk (by omega) (cond_dk ⟨by omega, by omega⟩ (cond_dk ⟨by omega, by omega⟩ ?_))
        rw [show (i : Int).toNat = i by omega]
        have bad : okC l D i = false → okCh l D = false := fun h => by
          unfold okCh
          rw [List.all_eq_false]
          exact ⟨i, List.mem_range.2 hlt, by rw [h]; simp⟩
        refine cond_d (fun g1 => cond_nd (fun g2 => ⟨rfl, .inr ⟨bad ?_, rfl, _, rfl⟩⟩) (fun g2 => cond_r (by omega) ⟨i + 1, ⟨by omega, fun j hj => ?_⟩, by dsimp only; omega, rfl, fitBs_refl _, fun _ _ _ h => h⟩)) (fun g1 => ⟨rfl, .inr ⟨bad ?_, rfl, _, rfl⟩⟩)
        · unfold okC; exact decide_eq_false (by omega)
        · by_cases e : j = i
          · subst e
            unfold okC; exact decide_eq_true ⟨g1, g2⟩
          · exact h1 j (by omega)
        · unfold okC; exact decide_eq_false (by omega)
      · obtain rfl : i = l.length := by omega
        refine cond_d (fun h => by omega) (fun _ => ⟨rfl, .inl ⟨?_, rfl, rfl⟩⟩)
        unfold okCh
        rw [List.all_eq_true]
        intro j hj
        exact h1 j (List.mem_range.1 hj)
    · rintro lock tt h K ⟨hf, _, k1, k2⟩
      refine ⟨0, hf, ⟨Nat.zero_le _, fun j hj => by omega⟩, ?_⟩
      rintro e vs bs ⟨rfl, ⟨g, rfl, rfl⟩ | ⟨g, rfl, i, rfl⟩⟩
      · exact k1 g
      · exact k2 g i
  · rintro lock tt h K ⟨hf, hc, _⟩
    exact (hh hc).elim

theorem ab_tab : ∀ f T, tabS [asT, ofT, blT] f = some T → SpOk Try.prog f T := tab_ok _ (fun x hx => by
  simp only [List.mem_cons, List.not_mem_nil, or_false] at hx
  rcases hx with rfl | rfl | rfl
  · exact asT_ok
  · exact ofT_ok
  · exact blT_ok)
end
end Go.Sx.Bln

/- blend: Blend, as a row. -/

namespace Go.Sx.Bln
open Go Go.Sx Go.Proofs
set_option maxRecDepth 1000000

abbrev zV : VV := .agg [I 0, I 0, I 0, .nils, .bool false]
/-- What is wrong with a blend that is asked for. -/
def bldE (l : List Stk) (t : Tst) (y : Int) (D : List Int) : Int :=
  if okAll l t = false then 1 else if ¬ ((0 ≤ y ∧ y ≤ 100) ∧ D.length = l.length) then 2 else if okCh l D = false then 2 else 0
abbrev chD (D : List Int) : Nat → Int := fun i => D.getD i 0

section
variable {l : List Stk} {t : Tst} {y : Int} {D : List Int}

theorem bld_con (h : bldE l t y D = 0) : conB l t (chD D) ∧ 0 ≤ y ∧ y ≤ 100 ∧ D.length = l.length ∧ okAll l t = true ∧ okCh l D = true := by
  unfold bldE at h
  split at h
  · cases h
  · rename_i h1
    split at h
    · cases h
    · rename_i h2
      split at h
      · cases h
      · rename_i h3
        have h1 : okAll l t = true := by simpa using h1
        have h2 : (0 ≤ y ∧ y ≤ 100) ∧ D.length = l.length := Classical.not_not.1 h2
        have h3 : okCh l D = true := by simpa using h3
        obtain ⟨a, b, c, _, _⟩ := okAll_l h1
        exact ⟨⟨okCh_nB a h2.2 h3, a, b, okT_tB c⟩, h2.1.1, h2.1.2, h2.2, h1, h3⟩

theorem bld_v : ∃ r h', CallsV Try.prog 24 [stD l, .agg (tsL t), I y, inD D] ⟨0, []⟩ r h' ∧ (bldE l t y D ≠ 0 → r = .ret (.tup [zV, I (bldE l t y D)])) ∧
    (bldE l t y D = 0 → r = .ret (.tup [vtV (vtF l t (chD D) y) 3, I 0]) ∧ h'.at 3 = vtB (vtF l t (chD D) y) ∧ ∀ i, h'.at (3 + (i + 1)) = .free) := by
  have hall : LoopsOk Try.prog 24 [(0, lN2 l t y D)] := fun x hx => by
    simp only [List.mem_singleton] at hx
    subst hx
    exact ⟨by kernel_rfl, lN2_ok⟩
  obtain ⟨r, h', hK, hc⟩ := of_callN (callL_good hmix ab_tab hall (un := 10) 20) (f := 24) (args := [stD l, .agg (tsL t), I y, inD D]) (h := ⟨0, []⟩) (K := fun r h' => (bldE l t y D ≠ 0 → r = .ret (.tup [zV, I (bldE l t y D)])) ∧
    (bldE l t y D = 0 → r = .ret (.tup [vtV (vtF l t (chD D) y) 3, I 0]) ∧ h'.at 3 = vtB (vtF l t (chD D) y) ∧ ∀ i, h'.at (3 + (i + 1)) = .free)) (by
    refine cast (bd_ev l t y D _).symm ⟨l, t, isD_l, ⟨⟨rfl, rfl, fun _ _ => rfl⟩, ⟨rfl, rfl⟩, ⟨rfl, rfl⟩, trivial⟩, ?_⟩
    have err : ∀ (e : Int), e ≠ 0 → bldE l t y D = e → ∀ hh : VH, (bldE l t y D ≠ 0 → VRes.ret (.tup [zV, I e]) = .ret (.tup [zV, I (bldE l t y D)])) ∧ (bldE l t y D = 0 → VRes.ret (.tup [zV, I e]) = .ret (.tup [vtV (vtF l t (chD D) y) 3, I 0]) ∧ hh.at 3 = vtB (vtF l t (chD D) y) ∧ ∀ i, hh.at (3 + (i + 1)) = .free) := fun e he hb hh =>
      ⟨fun _ => by rw [hb], fun h => (he (hb ▸ h)).elim⟩
    refine cond_i (fun h1 => err 1 (by decide) ?_ _) (fun h1 => ?_)
    · have h1 : okAll l t = false := by simpa using h1
      unfold bldE; rw [if_pos h1]
    have h1 : okAll l t = true := by simpa using h1
    have n1 : ¬ okAll l t = false := by rw [h1]; simp
    refine cond_d (fun g1 => cond_nd (fun g2 => err 2 (by decide) ?_ _) (fun g2 => cond_nd (fun g3 => err 2 (by decide) ?_ _) (fun g3 => ?_))) (fun g1 => err 2 (by decide) ?_ _)
    · unfold bldE; rw [if_neg n1, if_pos (by omega)]
    · unfold bldE; rw [if_neg n1, if_pos (by omega)]
    · have hD : D.length = l.length := by omega
      obtain ⟨hl6, _⟩ := (okAll_l h1).1
      refine ⟨fitP_self rfl, ⟨hl6, hD⟩, fun hk => ?_, fun hk i => err 2 (by decide) ?_ _⟩
      · have hb : bldE l t y D = 0 := by unfold bldE; rw [if_neg n1, if_neg (by omega), if_neg (by rw [hk]; simp)]
        obtain ⟨hcon, _⟩ := bld_con hb
        refine ⟨D, ⟨rfl, rfl, fun _ _ => rfl⟩, by omega, l, t, chD D, ⟨_, _, rfl, ⟨rfl, rfl, fun _ _ => rfl⟩, ⟨rfl, rfl, fun _ _ => rfl⟩, ⟨rfl, rfl⟩, ⟨rfl, rfl⟩, trivial⟩, rfl, ⟨hcon, by omega, by omega⟩, ?_⟩
        rintro V rfl
        exact ⟨fun h => (h hb).elim, fun _ => ⟨rfl, rfl, fun i => at_ge (by show ¬ 3 + (i + 1) < 4; omega)⟩⟩
      · unfold bldE; rw [if_neg n1, if_neg (by omega), if_pos hk]
    · unfold bldE; rw [if_neg n1, if_pos (by omega)])
  exact ⟨r, h', hc, hK⟩
end

/-- Blend, as a row. -/
def bldT : FuncId × Spec1 := (24, fun _ args h K => match args with
  | [x, z, .int .i64 y, w] => ∃ (l : List Stk) (t : Tst) (D : List Int), isD h 4 x (stD l) ∧ isD h 4 z (.agg (tsL t)) ∧ isD h 4 w (inD D) ∧ (bldE l t y D ≠ 0 → K (.ret (.tup [zV, I (bldE l t y D)])) h) ∧ (bldE l t y D = 0 → ∀ V, V = vtF l t (chD D) y → K (.ret (.tup [vtV V h.nx, I 0])) (h.new (vtB V)))
  | _ => False)
theorem bldT_ok : SpOk Try.prog bldT.1 bldT.2 := by
  intro lock args h K hK
  simp only [bldT] at hK
  split at hK
  · rename_i x z y w
    obtain ⟨l, t, D, hx, hz, hw, k1, k2⟩ := hK
    obtain ⟨r, h', hv, r1, r2⟩ := bld_v (l := l) (t := t) (y := y) (D := D)
    have ha : isDL h 4 [x, z, I y, w] [stD l, .agg (tsL t), I y, inD D] := ⟨hx, hz, ⟨rfl, rfl⟩, hw, trivial⟩
    by_cases hb : bldE l t y D = 0
    · obtain ⟨rfl, h1, h2⟩ := r2 hb
      have := calls_lendDO (h := h) 4 3 hv h1 h2 rfl (fun i hi => rfl) ha
      have e : (VRes.ret (.tup [vtV (vtF l t (chD D) y) 3, I 0])).sh 3 h.nx = .ret (.tup [vtV (vtF l t (chD D) y) h.nx, I 0]) := by
        simp [VRes.sh, vtV, VV.sh, shL, shN]
      rw [e] at this
      exact ⟨_, _, k2 hb _ rfl, lockP_new _ _ _, this⟩
    · have := r1 hb
      subst this
      exact ⟨_, h, k1 hb, lockP_refl _ _, calls_lendDP 4 hv rfl ha⟩
  · exact hK.elim
end Go.Sx.Bln

/- blend: the document's tastes and choices, evaluated. -/

namespace Go.Sx.Bln
open Go Go.Sx Go.Proofs
set_option maxRecDepth 1000000

def dsJ : List Nat := [3, 2, 1, 0]
def VJ (t : Tst) (i : Int) : List VV := [I i, .bool false, .ptr (.own 0 0), .agg (tsL t)]
def BJ (t : Tst) : List VB := [.cells (tsL t) 25]
theorem rt_ev (t : Tst) (i : Int) (X : VEx → List VV → List VB → Prop) : codeE Try.prog (callN Try.prog noSpec noL 10 20) (fun _ => none) true 10 (ntOf Try.prog 27) 0 (loopB 0 (bodyOf Try.prog 27)) (dsJ.zip (VJ t i)) ⟨1, [0].zip (BJ t)⟩ (obs 1 dsJ [0] X) =
  (bif decide (i < (↑t.T.length : Int)) then
 bif decide ((0 : Int) ≤ i ∧ i < (↑t.T.length : Int)) then
 bif decide ((0 : Int) ≤ t.T.getD i.toNat (0 : Int)) then
 bif !decide (t.T.getD i.toNat (0 : Int) ≤ (1000 : Int)) then
 X VEx.ret [I i, VV.bool false, VV.ptr (VA.own 0 0), VV.agg [VV.tl t.T.length 1 (dG t.T), I t.far, I t.least]] [VB.cells [VV.tl t.T.length 1 (dG t.T), I t.far, I t.least] (25 : TypeId)]
 else bif inK IntKind.i64 (i + (1 : Int)) then
 X VEx.normal [I (i + (1 : Int)), VV.bool false, VV.ptr (VA.own 0 0), VV.agg [VV.tl t.T.length 1 (dG t.T), I t.far, I t.least]] [VB.cells [VV.tl t.T.length 1 (dG t.T), I t.far, I t.least] (25 : TypeId)]
 else False
 else X VEx.ret [I i, VV.bool false, VV.ptr (VA.own 0 0), VV.agg [VV.tl t.T.length 1 (dG t.T), I t.far, I t.least]] [VB.cells [VV.tl t.T.length 1 (dG t.T), I t.far, I t.least] (25 : TypeId)]
 else False
 else X (VEx.exit 0) [I i, VV.bool false, VV.ptr (VA.own 0 0), VV.agg [VV.tl t.T.length 1 (dG t.T), I t.far, I t.least]] [VB.cells [VV.tl t.T.length 1 (dG t.T), I t.far, I t.least] (25 : TypeId)]) := by kernel_rfl

def lJ (t : Tst) : LT := fun lock tt h K =>
  FitP lock h tt ⟨1, [0].zip (BJ t)⟩ (dsJ.zip (VJ t 0)) ∧ t.T.length ≤ 100000 ∧ (anyN t.T = false → K .normal (dsJ.zip (VJ t t.T.length)) ⟨1, [0].zip (BJ t)⟩) ∧ (anyN t.T = true → ∀ i : Int, K .ret (dsJ.zip (VJ t i)) ⟨1, [0].zip (BJ t)⟩)
theorem rtf_ev (t : Tst) (Q : VRes → Prop) : callN Try.prog noSpec (atF 27 [(0, lJ t)]) 10 20 0 (.fn 27) [.agg (tsL t)] ⟨0, []⟩ (fun r h => Q r) =
  (FitP 0 (VH.mk 1 ([0].zip (BJ t))) (dsJ.zip (VJ t (0 : Int))) (VH.mk 1 ([0].zip (BJ t))) (dsJ.zip (VJ t (0 : Int))) ∧ t.T.length ≤ 100000 ∧ (anyN t.T = false → bif decide ((1 : Int) ≤ (↑t.T.length : Int)) then
 bif decide ((↑t.T.length : Int) ≤ (4 : Int)) then
 bif decide ((0 : Int) ≤ t.far) then
 bif decide (t.far ≤ (1000 : Int)) then
 bif decide ((0 : Int) ≤ t.least) then
 Q (VRes.ret (VV.bool (decide (t.least ≤ (100 : Int)))))
 else Q (VRes.ret (VV.bool false))
 else Q (VRes.ret (VV.bool false))
 else Q (VRes.ret (VV.bool false))
 else Q (VRes.ret (VV.bool false))
 else Q (VRes.ret (VV.bool false))) ∧ (anyN t.T = true → ∀ (i : Int), Q (VRes.ret (VV.bool false)))) := by kernel_rfl

def dsK : List Nat := [5, 4, 0, 1]
def VK (l : List Stk) (D : List Int) (i : Int) : List VV := [I i, .bool false, stD l, inD D]
theorem rc_ev (l : List Stk) (D : List Int) (i : Int) (X : VEx → List VV → List VB → Prop) : codeE Try.prog (callN Try.prog noSpec noL 10 20) (fun _ => none) true 10 (ntOf Try.prog 29) 0 (loopB 0 (bodyOf Try.prog 29)) (dsK.zip (VK l D i)) ⟨0, ([] : List Nat).zip []⟩ (obs 0 dsK [] X) =
  (bif decide (i < (↑D.length : Int)) then
 bif decide ((0 : Int) ≤ i ∧ i < (↑D.length : Int)) then
 bif decide ((0 : Int) ≤ i ∧ i < (↑l.length : Int)) then
 bif decide ((0 : Int) ≤ D.getD i.toNat (0 : Int)) then
 bif !decide (D.getD i.toNat (0 : Int) ≤ (l.getD i.toNat k0).casks) then
 X VEx.ret [I i, VV.bool false, VV.tl l.length 5 (stG l), VV.tl D.length 1 (dG D)] []
 else bif inK IntKind.i64 (i + (1 : Int)) then
 X VEx.normal [I (i + (1 : Int)), VV.bool false, VV.tl l.length 5 (stG l), VV.tl D.length 1 (dG D)] []
 else False
 else X VEx.ret [I i, VV.bool false, VV.tl l.length 5 (stG l), VV.tl D.length 1 (dG D)] []
 else False
 else False
 else X (VEx.exit 0) [I i, VV.bool false, VV.tl l.length 5 (stG l), VV.tl D.length 1 (dG D)] []) := by kernel_rfl

def lK (l : List Stk) (D : List Int) : LT := fun lock tt h K =>
  FitP lock h tt ⟨0, ([] : List Nat).zip []⟩ (dsK.zip (VK l D 0)) ∧ (l.length ≤ 100000 ∧ D.length = l.length) ∧ (okCh l D = true → K .normal (dsK.zip (VK l D l.length)) ⟨0, ([] : List Nat).zip []⟩) ∧ (okCh l D = false → ∀ i : Int, K .ret (dsK.zip (VK l D i)) ⟨0, ([] : List Nat).zip []⟩)
theorem rcf_ev (l : List Stk) (D : List Int) (Q : VRes → Prop) : callN Try.prog noSpec (atF 29 [(0, lK l D)]) 10 20 0 (.fn 29) [stD l, inD D] ⟨0, []⟩ (fun r h => Q r) =
  (bif !decide ((↑D.length : Int) = (↑l.length : Int)) then
 Q (VRes.ret (VV.bool false))
 else FitP 0 (VH.mk 0 ([].zip [])) (dsK.zip (VK l D (0 : Int))) (VH.mk 0 ([].zip [])) (dsK.zip (VK l D (0 : Int))) ∧ (l.length ≤ 100000 ∧ D.length = l.length) ∧ (okCh l D = true → Q (VRes.ret (VV.bool true))) ∧ (okCh l D = false → ∀ (i : Int), Q (VRes.ret (VV.bool false)))) := by kernel_rfl

end Go.Sx.Bln

/- blend: the document's tastes and choices. -/

namespace Go.Sx.Bln
open Go Go.Sx Go.Proofs
set_option maxRecDepth 1000000

section
variable {l : List Stk} {t : Tst} {D : List Int}

theorem anyN_true {D : List Int} {i : Nat} (hi : i < D.length) (h : okN (D.getD i 0) = false) : anyN D = true := by
  unfold anyN
  rw [List.any_eq_true]
  exact ⟨i, List.mem_range.2 hi, by unfold qN; rw [h]; rfl⟩
theorem anyN_false {D : List Int} (h : ∀ i, i < D.length → okN (D.getD i 0) = true) : anyN D = false := by
  unfold anyN
  rw [List.any_eq_false]
  intro j hj
  unfold qN
  rw [h j (List.mem_range.1 hj)]
  simp

def oJ (t : Tst) (_ : Nat) (e : VEx) (vs : List VV) (bs : List VB) : Prop :=
  bs = BJ t ∧ ((anyN t.T = false ∧ e = .exit 0 ∧ vs = VJ t t.T.length) ∨ (anyN t.T = true ∧ e = .ret ∧ ∃ i : Int, vs = VJ t i))

theorem lJ_ok : LSound Try.prog true (.block 0 (.loop (loopB 0 (bodyOf Try.prog 27)))) (ntOf Try.prog 27) (lJ t) := by
  by_cases hn : t.T.length ≤ 100000
  · refine loop_row hmix good0 (un := 10) (ds := dsJ) (ns := [0]) (nx := 1) (fun i : Nat => VJ t i) (fun _ => BJ t) (fun i => i ≤ t.T.length ∧ ∀ j, j < i → okN (t.T.getD j 0) = true) (fun i => t.T.length - i) (oJ t) noL_ok ?_ ?_
    · rintro i ⟨h0, h1⟩
      refine cast (rt_ev t i _).symm ?_
      by_cases hlt : i < t.T.length
      · refine cond_dk (by omega) (cond_dk ⟨by omega, by omega⟩ ?_)
        rw [show (i : Int).toNat = i by omega]
        refine cond_d (fun g1 => cond_nd (fun g2 => ⟨rfl, .inr ⟨anyN_true hlt ?_, rfl, _, rfl⟩⟩) (fun g2 => cond_r (by omega) ⟨i + 1, ⟨by omega, fun j hj => ?_⟩, by dsimp only; omega, rfl, fitBs_refl _, fun _ _ _ h => h⟩)) (fun g1 => ⟨rfl, .inr ⟨anyN_true hlt ?_, rfl, _, rfl⟩⟩)
        · unfold okN; exact decide_eq_false (by omega)
        · by_cases e : j = i
          · subst e
            unfold okN; exact decide_eq_true ⟨g1, g2⟩
          · exact h1 j (by omega)
        · unfold okN; exact decide_eq_false (by omega)
      · obtain rfl : i = t.T.length := by omega
        exact cond_d (fun h => by omega) (fun _ => ⟨rfl, .inl ⟨anyN_false h1, rfl, rfl⟩⟩)
    · rintro lock tt h K ⟨hf, _, k1, k2⟩
      refine ⟨0, hf, ⟨Nat.zero_le _, fun j hj => by omega⟩, ?_⟩
      rintro e vs bs ⟨rfl, ⟨g, rfl, rfl⟩ | ⟨g, rfl, i, rfl⟩⟩
      · exact k1 g
      · exact k2 g i
  · rintro lock tt h K ⟨hf, hc, _⟩
    exact (hn hc).elim

theorem rtaste_v (hn : t.T.length ≤ 100000) : ∃ h', CallsV Try.prog 27 [.agg (tsL t)] ⟨0, []⟩ (.ret (.bool (okT t))) h' := by
  have hall : LoopsOk Try.prog 27 [(0, lJ t)] := fun x hx => by
    simp only [List.mem_singleton] at hx
    subst hx
    exact ⟨by kernel_rfl, lJ_ok⟩
  obtain ⟨r, h', rfl, hc⟩ := of_callN (callL_good hmix noSp hall (un := 10) 20) (f := 27) (args := [.agg (tsL t)]) (h := ⟨0, []⟩) (K := fun r _ => r = .ret (.bool (okT t))) (by
    refine cast (rtf_ev t _).symm ⟨fitP_self rfl, hn, fun hN => ?_, fun hN i => ?_⟩
    · have e : ∀ x : Bool, okT t = x → VRes.ret (VV.bool x) = VRes.ret (VV.bool (okT t)) := fun x hx => by rw [hx]
      unfold okT at e ⊢
      rw [hN] at e ⊢
      refine cond_d (fun h1 => cond_d (fun h2 => cond_d (fun h4 => cond_d (fun h5 => cond_d (fun h6 => e _ ?_) (fun h6 => e _ ?_)) (fun h5 => e _ ?_)) (fun h4 => e _ ?_)) (fun h2 => e _ ?_)) (fun h1 => e _ ?_)
      · rw [decide_eq_true (p := 1 ≤ t.T.length ∧ _) (by omega), decide_eq_true (p := 0 ≤ t.far ∧ _) (by omega), Bool.not_false, Bool.true_and, Bool.true_and, Bool.true_and, decide_eq_decide]
        omega
      · rw [decide_eq_false (p := 0 ≤ t.least ∧ _) (by omega), Bool.and_false]
      · rw [decide_eq_false (p := 0 ≤ t.far ∧ _) (by omega), Bool.and_false, Bool.false_and]
      · rw [decide_eq_false (p := 0 ≤ t.far ∧ _) (by omega), Bool.and_false, Bool.false_and]
      · rw [decide_eq_false (p := 1 ≤ t.T.length ∧ _) (by omega)]; rfl
      · rw [decide_eq_false (p := 1 ≤ t.T.length ∧ _) (by omega)]; rfl
    · unfold okT
      rw [hN]
      simp)
  exact ⟨h', hc⟩

def oK (l : List Stk) (D : List Int) (_ : Nat) (e : VEx) (vs : List VV) (bs : List VB) : Prop :=
  bs = [] ∧ ((okCh l D = true ∧ e = .exit 0 ∧ vs = VK l D l.length) ∨ (okCh l D = false ∧ e = .ret ∧ ∃ i : Int, vs = VK l D i))

theorem lK_ok : LSound Try.prog true (.block 0 (.loop (loopB 0 (bodyOf Try.prog 29)))) (ntOf Try.prog 29) (lK l D) := by
  by_cases hh : l.length ≤ 100000 ∧ D.length = l.length
  · obtain ⟨hl, hD⟩ := hh
    refine loop_row hmix good0 (un := 10) (ds := dsK) (ns := []) (nx := 0) (fun i : Nat => VK l D i) (fun _ => []) (fun i => i ≤ l.length ∧ ∀ j, j < i → okC l D j = true) (fun i => l.length - i) (oK l D) noL_ok ?_ ?_
    · rintro i ⟨h0, h1⟩
      refine cast (rc_ev l D i _).symm ?_
      by_cases hlt : i < l.length
      · refine cond_dk (by omega) (cond_dk ⟨by omega, by omega⟩ (cond_dk ⟨by omega, by omega⟩ ?_))
        rw [show (i : Int).toNat = i by omega]
        have bad : okC l D i = false → okCh l D = false := fun h => by
          unfold okCh
          rw [List.all_eq_false]
          exact ⟨i, List.mem_range.2 hlt, by rw [h]; simp⟩
        refine cond_d (fun g1 => cond_nd (fun g2 => ⟨rfl, .inr ⟨bad ?_, rfl, _, rfl⟩⟩) (fun g2 => cond_r (by omega) ⟨i + 1, ⟨by omega, fun j hj => ?_⟩, by dsimp only; omega, rfl, fitBs_refl _, fun _ _ _ h => h⟩)) (fun g1 => ⟨rfl, .inr ⟨bad ?_, rfl, _, rfl⟩⟩)
        · unfold okC; exact decide_eq_false (by omega)
        · by_cases e : j = i
          · subst e
            unfold okC; exact decide_eq_true ⟨g1, g2⟩
          · exact h1 j (by omega)
        · unfold okC; exact decide_eq_false (by omega)
      · obtain rfl : i = l.length := by omega
        refine cond_d (fun h => by omega) (fun _ => ⟨rfl, .inl ⟨?_, rfl, rfl⟩⟩)
        unfold okCh
        rw [List.all_eq_true]
        intro j hj
        exact h1 j (List.mem_range.1 hj)
    · rintro lock tt h K ⟨hf, _, k1, k2⟩
      refine ⟨0, hf, ⟨Nat.zero_le _, fun j hj => by omega⟩, ?_⟩
      rintro e vs bs ⟨rfl, ⟨g, rfl, rfl⟩ | ⟨g, rfl, i, rfl⟩⟩
      · exact k1 g
      · exact k2 g i
  · rintro lock tt h K ⟨hf, hc, _⟩
    exact (hh hc).elim

theorem rchoice_v (hl : l.length ≤ 100000) : ∃ h', CallsV Try.prog 29 [stD l, inD D] ⟨0, []⟩ (.ret (.bool (decide (D.length = l.length) && okCh l D))) h' := by
  have hall : LoopsOk Try.prog 29 [(0, lK l D)] := fun x hx => by
    simp only [List.mem_singleton] at hx
    subst hx
    exact ⟨by kernel_rfl, lK_ok⟩
  obtain ⟨r, h', rfl, hc⟩ := of_callN (callL_good hmix noSp hall (un := 10) 20) (f := 29) (args := [stD l, inD D]) (h := ⟨0, []⟩) (K := fun r _ => r = .ret (.bool (decide (D.length = l.length) && okCh l D))) (by
    refine cast (rcf_ev l D _).symm ?_
    refine cond_nd (fun h => ?_) (fun h => ⟨fitP_self rfl, ⟨hl, by omega⟩, fun hk => ?_, fun hk _ => ?_⟩)
    · rw [decide_eq_false (by omega)]; rfl
    · rw [hk, decide_eq_true (by omega)]; rfl
    · rw [hk, Bool.and_false])
  exact ⟨h', hc⟩
end

/-- The document's tastes and choices, as rows. -/
def rtT : FuncId × Spec1 := (27, fun _ args h K => match args with
  | [x] => ∃ t : Tst, isD h 3 x (.agg (tsL t)) ∧ t.T.length ≤ 100000 ∧ K (.ret (.bool (okT t))) h
  | _ => False)
def rcT : FuncId × Spec1 := (29, fun _ args h K => match args with
  | [x, z] => ∃ (l : List Stk) (D : List Int), isD h 3 x (stD l) ∧ isD h 3 z (inD D) ∧ l.length ≤ 100000 ∧ K (.ret (.bool (decide (D.length = l.length) && okCh l D))) h
  | _ => False)
theorem rtT_ok : SpOk Try.prog rtT.1 rtT.2 := by
  intro lock args h K hK
  simp only [rtT] at hK
  split at hK
  · obtain ⟨t, hx, hn, hK⟩ := hK
    obtain ⟨h', hv⟩ := rtaste_v hn
    exact ⟨_, h, hK, lockP_refl _ _, calls_lendDP 3 hv rfl ⟨hx, trivial⟩⟩
  · exact hK.elim
theorem rcT_ok : SpOk Try.prog rcT.1 rcT.2 := by
  intro lock args h K hK
  simp only [rcT] at hK
  split at hK
  · obtain ⟨l, D, hx, hz, hn, hK⟩ := hK
    obtain ⟨h', hv⟩ := rchoice_v (D := D) hn
    exact ⟨_, h, hK, lockP_refl _ _, calls_lendDP 3 hv rfl ⟨hx, hz, trivial⟩⟩
  · exact hK.elim
end Go.Sx.Bln

/- blend: the document's stocks, evaluated. -/

namespace Go.Sx.Bln
open Go Go.Sx Go.Proofs
set_option maxRecDepth 1000000

def dsS2 : List Nat := [5, 4, 3, 0, 1]
def VS2 (l : List Stk) (t : Tst) (i : Int) : List VV := [I i, .bool false, .ptr (.own 0 0), stD l, .agg (tsL t)]
def dsS3 : List Nat := [7, 6, 5, 4, 3, 0, 1]
def VS3 (l : List Stk) (t : Tst) (i k : Int) : List VV := I k :: .ptr (.own 1 0) :: VS2 l t i
def BS3 (t : Tst) (s : Stk) : List VB := [.cells (tsL t) 25, .cells (stL s) 32]
theorem ri_ev (l : List Stk) (t : Tst) (s : Stk) (i k : Int) (X : VEx → List VV → List VB → Prop) : codeE Try.prog (callN Try.prog noSpec noL 10 20) (fun _ => none) true 10 90 0 (loopB 2 (bodyOf Try.prog 28)) (dsS3.zip (VS3 l t i k)) ⟨2, [0, 1].zip (BS3 t s)⟩ (obs 2 dsS3 [0, 1] X) =
  (bif decide (k < (↑s.prof.length : Int)) then
 bif decide ((0 : Int) ≤ k ∧ k < (↑s.prof.length : Int)) then
 bif decide ((s.prof.getD k.toNat s0).lo < (0 : Int)) then
 X VEx.ret [I k, VV.ptr (VA.own 1 0), I i, VV.bool false, VV.ptr (VA.own 0 0), VV.tl l.length 5 (stG l), VV.agg [VV.tl t.T.length 1 (dG t.T), I t.far, I t.least]] [VB.cells [VV.tl t.T.length 1 (dG t.T), I t.far, I t.least] (25 : TypeId), VB.cells [I s.casks, I s.vol, I s.age, I s.cost, VV.tl s.prof.length 2 (spG s.prof)] (32 : TypeId)]
 else bif decide ((0 : Int) ≤ k ∧ k < (↑s.prof.length : Int)) then
 bif decide ((0 : Int) ≤ k ∧ k < (↑s.prof.length : Int)) then
 bif decide ((s.prof.getD k.toNat s0).lo > (s.prof.getD k.toNat s0).hi) then
 X VEx.ret [I k, VV.ptr (VA.own 1 0), I i, VV.bool false, VV.ptr (VA.own 0 0), VV.tl l.length 5 (stG l), VV.agg [VV.tl t.T.length 1 (dG t.T), I t.far, I t.least]] [VB.cells [VV.tl t.T.length 1 (dG t.T), I t.far, I t.least] (25 : TypeId), VB.cells [I s.casks, I s.vol, I s.age, I s.cost, VV.tl s.prof.length 2 (spG s.prof)] (32 : TypeId)]
 else bif decide ((0 : Int) ≤ k ∧ k < (↑s.prof.length : Int)) then
 bif decide ((s.prof.getD k.toNat s0).hi > (1000 : Int)) then
 X VEx.ret [I k, VV.ptr (VA.own 1 0), I i, VV.bool false, VV.ptr (VA.own 0 0), VV.tl l.length 5 (stG l), VV.agg [VV.tl t.T.length 1 (dG t.T), I t.far, I t.least]] [VB.cells [VV.tl t.T.length 1 (dG t.T), I t.far, I t.least] (25 : TypeId), VB.cells [I s.casks, I s.vol, I s.age, I s.cost, VV.tl s.prof.length 2 (spG s.prof)] (32 : TypeId)]
 else bif inK IntKind.i64 (k + (1 : Int)) then
 X VEx.normal [I (k + (1 : Int)), VV.ptr (VA.own 1 0), I i, VV.bool false, VV.ptr (VA.own 0 0), VV.tl l.length 5 (stG l), VV.agg [VV.tl t.T.length 1 (dG t.T), I t.far, I t.least]] [VB.cells [VV.tl t.T.length 1 (dG t.T), I t.far, I t.least] (25 : TypeId), VB.cells [I s.casks, I s.vol, I s.age, I s.cost, VV.tl s.prof.length 2 (spG s.prof)] (32 : TypeId)]
 else False
 else False
 else False
 else False
 else False
 else X (VEx.exit 2) [I k, VV.ptr (VA.own 1 0), I i, VV.bool false, VV.ptr (VA.own 0 0), VV.tl l.length 5 (stG l), VV.agg [VV.tl t.T.length 1 (dG t.T), I t.far, I t.least]] [VB.cells [VV.tl t.T.length 1 (dG t.T), I t.far, I t.least] (25 : TypeId), VB.cells [I s.casks, I s.vol, I s.age, I s.cost, VV.tl s.prof.length 2 (spG s.prof)] (32 : TypeId)]) := by kernel_rfl

def lS3 (l : List Stk) (t : Tst) (s : Stk) (i : Nat) : LT := fun lock tt h K =>
  FitP lock h tt ⟨2, [0, 1].zip (BS3 t s)⟩ (dsS3.zip (VS3 l t i 0)) ∧ s.prof.length ≤ 100000 ∧ (anyP s.prof = false → K .normal (dsS3.zip (VS3 l t i s.prof.length)) ⟨2, [0, 1].zip (BS3 t s)⟩) ∧ (anyP s.prof = true → ∀ k : Int, K .ret (dsS3.zip (VS3 l t i k)) ⟨2, [0, 1].zip (BS3 t s)⟩)
theorem ro_ev (l : List Stk) (t : Tst) (s : Stk) (i : Nat) (X : VEx → List VV → List VB → Prop) : codeE Try.prog (callN Try.prog noSpec noL 10 20) (tabB [(2, lS3 l t s i)]) true 10 90 0 (loopB 0 (bodyOf Try.prog 28)) (dsS2.zip (VS2 l t i)) ⟨1, [0].zip (BJ t)⟩ (obs 1 dsS2 [0] X) =
  (bif decide ((↑i : Int) < (↑l.length : Int)) then
 bif decide ((0 : Int) ≤ (↑i : Int) ∧ (↑i : Int) < (↑l.length : Int)) then
 bif decide ((0 : Int) ≤ (l.getD (↑i : Int).toNat k0).casks) then
 bif !decide ((l.getD (↑i : Int).toNat k0).casks ≤ (6 : Int)) then
 X VEx.ret [I (↑i : Int), VV.bool false, VV.ptr (VA.own 0 0), VV.tl l.length 5 (stG l), VV.agg [VV.tl t.T.length 1 (dG t.T), I t.far, I t.least]] [VB.cells [VV.tl t.T.length 1 (dG t.T), I t.far, I t.least] (25 : TypeId)]
 else bif decide ((1 : Int) ≤ (l.getD (↑i : Int).toNat k0).vol) then
 bif !decide ((l.getD (↑i : Int).toNat k0).vol ≤ (65536 : Int)) then
 X VEx.ret [I (↑i : Int), VV.bool false, VV.ptr (VA.own 0 0), VV.tl l.length 5 (stG l), VV.agg [VV.tl t.T.length 1 (dG t.T), I t.far, I t.least]] [VB.cells [VV.tl t.T.length 1 (dG t.T), I t.far, I t.least] (25 : TypeId)]
 else bif decide ((0 : Int) ≤ (l.getD (↑i : Int).toNat k0).age) then
 bif !decide ((l.getD (↑i : Int).toNat k0).age ≤ (100 : Int)) then
 X VEx.ret [I (↑i : Int), VV.bool false, VV.ptr (VA.own 0 0), VV.tl l.length 5 (stG l), VV.agg [VV.tl t.T.length 1 (dG t.T), I t.far, I t.least]] [VB.cells [VV.tl t.T.length 1 (dG t.T), I t.far, I t.least] (25 : TypeId)]
 else bif decide ((0 : Int) ≤ (l.getD (↑i : Int).toNat k0).cost) then
 bif !decide ((l.getD (↑i : Int).toNat k0).cost ≤ (1048576 : Int)) then
 X VEx.ret [I (↑i : Int), VV.bool false, VV.ptr (VA.own 0 0), VV.tl l.length 5 (stG l), VV.agg [VV.tl t.T.length 1 (dG t.T), I t.far, I t.least]] [VB.cells [VV.tl t.T.length 1 (dG t.T), I t.far, I t.least] (25 : TypeId)]
 else bif !decide ((↑(l.getD (↑i : Int).toNat k0).prof.length : Int) = (↑t.T.length : Int)) then
 X VEx.ret [I (↑i : Int), VV.bool false, VV.ptr (VA.own 0 0), VV.tl l.length 5 (stG l), VV.agg [VV.tl t.T.length 1 (dG t.T), I t.far, I t.least]] [VB.cells [VV.tl t.T.length 1 (dG t.T), I t.far, I t.least] (25 : TypeId)]
 else FitP 0 (VH.mk (2) ((1, VB.cells [I (l.getD (↑i : Int).toNat k0).casks, I (l.getD (↑i : Int).toNat k0).vol, I (l.getD (↑i : Int).toNat k0).age, I (l.getD (↑i : Int).toNat k0).cost, VV.tl (l.getD (↑i : Int).toNat k0).prof.length 2 (spG (l.getD (↑i : Int).toNat k0).prof)] 32) :: (1, VB.cells [I 0, I 0, I 0, I 0, VV.nils] 32) :: [0].zip (BJ t))) ((7, I 0) :: (48, VV.bool false) :: (48, VV.bool !decide ((↑(l.getD (↑i : Int).toNat k0).prof.length : Int) = (↑t.T.length : Int))) :: (47, VV.bool !decide ((↑(l.getD (↑i : Int).toNat k0).prof.length : Int) = (↑t.T.length : Int))) :: (40, VV.bool false) :: (46, I (↑t.T.length : Int)) :: (40, VV.bool false) :: (45, VV.tl t.T.length 1 (dG t.T)) :: (40, VV.bool false) :: (44, VV.ptr (VA.own 0 0)) :: (40, VV.bool false) :: (43, I (↑(l.getD (↑i : Int).toNat k0).prof.length : Int)) :: (40, VV.bool false) :: (42, VV.tl (l.getD (↑i : Int).toNat k0).prof.length 2 (spG (l.getD (↑i : Int).toNat k0).prof)) :: (40, VV.bool false) :: (41, VV.ptr (VA.own (1) (4))) :: (40, VV.bool false) :: (40, VV.bool !decide ((l.getD (↑i : Int).toNat k0).cost ≤ (1048576 : Int))) :: (39, VV.bool !decide ((l.getD (↑i : Int).toNat k0).cost ≤ (1048576 : Int))) :: (38, VV.bool !decide ((l.getD (↑i : Int).toNat k0).cost ≤ (1048576 : Int))) :: (34, VV.bool false) :: (37, VV.bool (decide ((l.getD (↑i : Int).toNat k0).cost ≤ (1048576 : Int)))) :: (34, VV.bool false) :: (36, I (l.getD (↑i : Int).toNat k0).cost) :: (34, VV.bool false) :: (35, VV.ptr (VA.own (1) (3))) :: (34, VV.bool false) :: (34, VV.bool !decide ((l.getD (↑i : Int).toNat k0).age ≤ (100 : Int))) :: (33, VV.bool !decide ((l.getD (↑i : Int).toNat k0).age ≤ (100 : Int))) :: (32, VV.bool !decide ((l.getD (↑i : Int).toNat k0).age ≤ (100 : Int))) :: (28, VV.bool false) :: (31, VV.bool (decide ((l.getD (↑i : Int).toNat k0).age ≤ (100 : Int)))) :: (28, VV.bool false) :: (30, I (l.getD (↑i : Int).toNat k0).age) :: (28, VV.bool false) :: (29, VV.ptr (VA.own (1) (2))) :: (28, VV.bool false) :: (28, VV.bool !decide ((l.getD (↑i : Int).toNat k0).vol ≤ (65536 : Int))) :: (27, VV.bool !decide ((l.getD (↑i : Int).toNat k0).vol ≤ (65536 : Int))) :: (26, VV.bool !decide ((l.getD (↑i : Int).toNat k0).vol ≤ (65536 : Int))) :: (22, VV.bool false) :: (25, VV.bool (decide ((l.getD (↑i : Int).toNat k0).vol ≤ (65536 : Int)))) :: (22, VV.bool false) :: (24, I (l.getD (↑i : Int).toNat k0).vol) :: (22, VV.bool false) :: (23, VV.ptr (VA.own (1) (1))) :: (22, VV.bool false) :: (22, VV.bool !decide ((l.getD (↑i : Int).toNat k0).casks ≤ (6 : Int))) :: (21, VV.bool !decide ((l.getD (↑i : Int).toNat k0).casks ≤ (6 : Int))) :: (20, VV.bool (decide ((l.getD (↑i : Int).toNat k0).casks ≤ (6 : Int)))) :: (19, I (l.getD (↑i : Int).toNat k0).casks) :: (18, VV.ptr (VA.own (1) 0)) :: (6, VV.ptr (VA.own (1) 0)) :: (17, VV.agg [I (l.getD (↑i : Int).toNat k0).casks, I (l.getD (↑i : Int).toNat k0).vol, I (l.getD (↑i : Int).toNat k0).age, I (l.getD (↑i : Int).toNat k0).cost, VV.tl (l.getD (↑i : Int).toNat k0).prof.length 2 (spG (l.getD (↑i : Int).toNat k0).prof)]) :: (16, VV.tp [I (l.getD (↑i : Int).toNat k0).casks, I (l.getD (↑i : Int).toNat k0).vol, I (l.getD (↑i : Int).toNat k0).age, I (l.getD (↑i : Int).toNat k0).cost, VV.tl (l.getD (↑i : Int).toNat k0).prof.length 2 (spG (l.getD (↑i : Int).toNat k0).prof)]) :: (15, I (↑i : Int)) :: (14, VV.tl l.length 5 (stG l)) :: (11, VV.bool true) :: (11, VV.bool (decide ((↑i : Int) < (↑l.length : Int)))) :: (10, I (↑l.length : Int)) :: (9, VV.tl l.length 5 (stG l)) :: (8, I (↑i : Int)) :: dsS2.zip (VS2 l t (↑i : Int))) (VH.mk 2 ([0, 1].zip (BS3 t s))) (dsS3.zip (VS3 l t (↑i : Int) (0 : Int))) ∧ s.prof.length ≤ 100000 ∧ (anyP s.prof = false → bif inK IntKind.i64 ((↑i : Int) + (1 : Int)) then
 X VEx.normal [I ((↑i : Int) + (1 : Int)), VV.bool false, VV.ptr (VA.own 0 0), VV.tl l.length 5 (stG l), VV.agg [VV.tl t.T.length 1 (dG t.T), I t.far, I t.least]] [VB.cells [VV.tl t.T.length 1 (dG t.T), I t.far, I t.least] (25 : TypeId)]
 else False) ∧ (anyP s.prof = true → ∀ (k : Int), X VEx.ret [I (↑i : Int), VV.bool false, VV.ptr (VA.own 0 0), VV.tl l.length 5 (stG l), VV.agg [VV.tl t.T.length 1 (dG t.T), I t.far, I t.least]] [VB.cells [VV.tl t.T.length 1 (dG t.T), I t.far, I t.least] (25 : TypeId)])
 else X VEx.ret [I (↑i : Int), VV.bool false, VV.ptr (VA.own 0 0), VV.tl l.length 5 (stG l), VV.agg [VV.tl t.T.length 1 (dG t.T), I t.far, I t.least]] [VB.cells [VV.tl t.T.length 1 (dG t.T), I t.far, I t.least] (25 : TypeId)]
 else X VEx.ret [I (↑i : Int), VV.bool false, VV.ptr (VA.own 0 0), VV.tl l.length 5 (stG l), VV.agg [VV.tl t.T.length 1 (dG t.T), I t.far, I t.least]] [VB.cells [VV.tl t.T.length 1 (dG t.T), I t.far, I t.least] (25 : TypeId)]
 else X VEx.ret [I (↑i : Int), VV.bool false, VV.ptr (VA.own 0 0), VV.tl l.length 5 (stG l), VV.agg [VV.tl t.T.length 1 (dG t.T), I t.far, I t.least]] [VB.cells [VV.tl t.T.length 1 (dG t.T), I t.far, I t.least] (25 : TypeId)]
 else X VEx.ret [I (↑i : Int), VV.bool false, VV.ptr (VA.own 0 0), VV.tl l.length 5 (stG l), VV.agg [VV.tl t.T.length 1 (dG t.T), I t.far, I t.least]] [VB.cells [VV.tl t.T.length 1 (dG t.T), I t.far, I t.least] (25 : TypeId)]
 else False
 else X (VEx.exit 0) [I (↑i : Int), VV.bool false, VV.ptr (VA.own 0 0), VV.tl l.length 5 (stG l), VV.agg [VV.tl t.T.length 1 (dG t.T), I t.far, I t.least]] [VB.cells [VV.tl t.T.length 1 (dG t.T), I t.far, I t.least] (25 : TypeId)]) := by kernel_rfl

def lS2 (l : List Stk) (t : Tst) : LT := fun lock tt h K =>
  FitP lock h tt ⟨1, [0].zip (BJ t)⟩ (dsS2.zip (VS2 l t 0)) ∧ (l.length ≤ 100000 ∧ t.T.length ≤ 100000) ∧ (anyS l t = false → K .normal (dsS2.zip (VS2 l t l.length)) ⟨1, [0].zip (BJ t)⟩) ∧ (anyS l t = true → ∀ i : Int, K .ret (dsS2.zip (VS2 l t i)) ⟨1, [0].zip (BJ t)⟩)
theorem rs_ev (l : List Stk) (t : Tst) (Q : VRes → Prop) : callN Try.prog noSpec (atF 28 [(0, lS2 l t)]) 10 20 0 (.fn 28) [stD l, .agg (tsL t)] ⟨0, []⟩ (fun r h => Q r) =
  (FitP 0 (VH.mk 1 ([0].zip (BJ t))) (dsS2.zip (VS2 l t (0 : Int))) (VH.mk 1 ([0].zip (BJ t))) (dsS2.zip (VS2 l t (0 : Int))) ∧ (l.length ≤ 100000 ∧ t.T.length ≤ 100000) ∧ (anyS l t = false → Q (VRes.ret (VV.bool (decide ((↑l.length : Int) ≤ (6 : Int)))))) ∧ (anyS l t = true → ∀ (i : Int), Q (VRes.ret (VV.bool false)))) := by kernel_rfl

end Go.Sx.Bln

/- blend: the document's stocks. -/

namespace Go.Sx.Bln
open Go Go.Sx Go.Proofs
set_option maxRecDepth 1000000

theorem anyP_true {D : List Sp} {i : Nat} (hi : i < D.length) (h : okP (D.getD i s0) = false) : anyP D = true := by
  unfold anyP
  rw [List.any_eq_true]
  exact ⟨i, List.mem_range.2 hi, by unfold qP; rw [h]; rfl⟩
theorem anyP_false {D : List Sp} (h : ∀ i, i < D.length → okP (D.getD i s0) = true) : anyP D = false := by
  unfold anyP
  rw [List.any_eq_false]
  intro j hj
  unfold qP
  rw [h j (List.mem_range.1 hj)]
  simp
theorem anyS_true {l : List Stk} {t : Tst} {i : Nat} (hi : i < l.length) (h : okS t (l.getD i k0) = false) : anyS l t = true := by
  unfold anyS
  rw [List.any_eq_true]
  exact ⟨i, List.mem_range.2 hi, by unfold qS; rw [h]; rfl⟩
theorem anyS_false {l : List Stk} {t : Tst} (h : ∀ i, i < l.length → okS t (l.getD i k0) = true) : anyS l t = false := by
  unfold anyS
  rw [List.any_eq_false]
  intro j hj
  unfold qS
  rw [h j (List.mem_range.1 hj)]
  simp

section
variable {l : List Stk} {t : Tst} {s : Stk} {i : Nat}

def oS3 (l : List Stk) (t : Tst) (s : Stk) (i : Nat) (_ : Nat) (e : VEx) (vs : List VV) (bs : List VB) : Prop :=
  bs = BS3 t s ∧ ((anyP s.prof = false ∧ e = .exit 2 ∧ vs = VS3 l t i s.prof.length) ∨ (anyP s.prof = true ∧ e = .ret ∧ ∃ k : Int, vs = VS3 l t i k))

theorem lS3_ok : LSound Try.prog true (.block 2 (.loop (loopB 2 (bodyOf Try.prog 28)))) 90 (lS3 l t s i) := by
  by_cases hn : s.prof.length ≤ 100000
  · refine loop_row hmix good0 (un := 10) (ds := dsS3) (ns := [0, 1]) (nx := 2) (fun k : Nat => VS3 l t i k) (fun _ => BS3 t s) (fun k => k ≤ s.prof.length ∧ ∀ j, j < k → okP (s.prof.getD j s0) = true) (fun k => s.prof.length - k) (oS3 l t s i) noL_ok ?_ ?_
    · rintro k ⟨h0, h1⟩
      refine cast (ri_ev l t s i k _).symm ?_
      by_cases hlt : k < s.prof.length
      · have hin : (0 : Int) ≤ k ∧ (k : Int) < s.prof.length := ⟨by omega, by omega⟩
        refine cond_dk (by omega) (cond_dk hin ?_)
        rw [show (k : Int).toNat = k by omega]
        refine cond_d (fun g1 => ⟨rfl, .inr ⟨anyP_true hlt ?_, rfl, _, rfl⟩⟩) (fun g1 => cond_dk hin (cond_dk hin (cond_d (fun g2 => ⟨rfl, .inr ⟨anyP_true hlt ?_, rfl, _, rfl⟩⟩) (fun g2 => cond_dk hin (cond_d (fun g3 => ⟨rfl, .inr ⟨anyP_true hlt ?_, rfl, _, rfl⟩⟩) (fun g3 => cond_r (by omega) ⟨k + 1, ⟨by omega, fun j hj => ?_⟩, by dsimp only; omega, rfl, fitBs_refl _, fun _ _ _ h => h⟩))))))
        · unfold okP; exact decide_eq_false (by omega)
        · unfold okP; exact decide_eq_false (by omega)
        · unfold okP; exact decide_eq_false (by omega)
        · by_cases e : j = k
          · subst e
            unfold okP; exact decide_eq_true (by omega)
          · exact h1 j (by omega)
      · obtain rfl : k = s.prof.length := by omega
        exact cond_d (fun h => by omega) (fun _ => ⟨rfl, .inl ⟨anyP_false h1, rfl, rfl⟩⟩)
    · rintro lock tt h K ⟨hf, _, k1, k2⟩
      refine ⟨0, hf, ⟨Nat.zero_le _, fun j hj => by omega⟩, ?_⟩
      rintro e vs bs ⟨rfl, ⟨g, rfl, rfl⟩ | ⟨g, rfl, k, rfl⟩⟩
      · exact k1 g
      · exact k2 g k
  · rintro lock tt h K ⟨hf, hc, _⟩
    exact (hn hc).elim

theorem lsp_S3 : ∀ id T, tabB [(2, lS3 l t s i)] id = some T → ∀ b' ∈ blocksOf id (loopB 0 (bodyOf Try.prog 28)), LSound Try.prog true (.block id b') 90 T := by
  intro id T hT b' hb
  simp only [tabB] at hT
  cases hid : Nat.beq id 2 with
  | false => rw [hid] at hT; cases hT
  | true =>
    rw [hid] at hT
    have := Nat.eq_of_beq_eq_true hid
    subst this
    cases hT
    have h2 : blocksOf 2 (loopB 0 (bodyOf Try.prog 28)) = [.loop (loopB 2 (bodyOf Try.prog 28))] := by kernel_rfl
    rw [h2] at hb
    simp only [List.mem_singleton] at hb
    subst hb
    exact lS3_ok

def oS2 (l : List Stk) (t : Tst) (_ : Nat) (e : VEx) (vs : List VV) (bs : List VB) : Prop :=
  bs = BJ t ∧ ((anyS l t = false ∧ e = .exit 0 ∧ vs = VS2 l t l.length) ∨ (anyS l t = true ∧ e = .ret ∧ ∃ i : Int, vs = VS2 l t i))

theorem lS2_ok : LSound Try.prog true (.block 0 (.loop (loopB 0 (bodyOf Try.prog 28)))) 90 (lS2 l t) := by
  by_cases hn : l.length ≤ 100000 ∧ t.T.length ≤ 100000
  · refine loop_rowD hmix good0 (un := 10) (ds := dsS2) (ns := [0]) (nx := 1) (lsp := fun i : Nat => tabB [(2, lS3 l t (l.getD i k0) i)]) (fun i : Nat => VS2 l t i) (fun _ => BJ t) (fun i => i ≤ l.length ∧ ∀ j, j < i → okS t (l.getD j k0) = true) (fun i => l.length - i) (oS2 l t) (fun _ _ => lsp_S3) ?_ ?_
    · rintro i ⟨h0, h1⟩
      refine cast (ro_ev l t (l.getD i k0) i _).symm ?_
      by_cases hlt : i < l.length
      · refine cond_dk (by omega) (cond_dk ⟨by omega, by omega⟩ ?_)
        rw [show (i : Int).toNat = i by omega]
        have bad : ∀ k : Int, okS t (l.getD i k0) = false → oS2 l t i .ret (VS2 l t k) (BJ t) := fun k h => ⟨rfl, .inr ⟨anyS_true hlt h, rfl, _, rfl⟩⟩
        have e : ¬ ((0 ≤ (l.getD i k0).casks ∧ (l.getD i k0).casks ≤ 6) ∧ (1 ≤ (l.getD i k0).vol ∧ (l.getD i k0).vol ≤ 65536) ∧ (0 ≤ (l.getD i k0).age ∧ (l.getD i k0).age ≤ 100) ∧ (0 ≤ (l.getD i k0).cost ∧ (l.getD i k0).cost ≤ 1048576) ∧ (l.getD i k0).prof.length = t.T.length) → okS t (l.getD i k0) = false := fun h => by
          unfold okS; rw [decide_eq_false h]; rfl
        refine cond_d (fun a1 => cond_nd (fun a2 => bad _ (e (by omega))) (fun a2 => cond_d (fun a3 => cond_nd (fun a4 => bad _ (e (by omega))) (fun a4 => cond_d (fun a5 => cond_nd (fun a6 => bad _ (e (by omega))) (fun a6 => cond_d (fun a7 => cond_nd (fun a8 => bad _ (e (by omega))) (fun a8 => cond_nd (fun a9 => bad _ (e (by omega))) (fun a9 => ⟨⟨⟨rfl, rfl, VB.fit_refl _, VB.fit_refl _, trivial⟩, rfl, rfl, rfl, rfl, rfl, rfl, rfl, trivial⟩, by omega, fun hp => ?_, fun hp k => bad _ ?_⟩))) (fun a7 => bad _ (e (by omega))))) (fun a5 => bad _ (e (by omega))))) (fun a3 => bad _ (e (by omega))))) (fun a1 => bad _ (e (by omega)))
        · refine cond_r (by omega) ⟨i + 1, ⟨by omega, fun j hj => ?_⟩, by dsimp only; omega, rfl, fitBs_refl _, fun _ _ _ h => h⟩
          by_cases ej : j = i
          · subst ej
            unfold okS
            rw [hp, decide_eq_true (by omega)]
            rfl
          · exact h1 j (by omega)
        · unfold okS; rw [hp]; simp
      · obtain rfl : i = l.length := by omega
        exact cond_d (fun h => by omega) (fun _ => ⟨rfl, .inl ⟨anyS_false h1, rfl, rfl⟩⟩)
    · rintro lock tt h K ⟨hf, _, k1, k2⟩
      refine ⟨0, hf, ⟨Nat.zero_le _, fun j hj => by omega⟩, ?_⟩
      rintro e vs bs ⟨rfl, ⟨g, rfl, rfl⟩ | ⟨g, rfl, i, rfl⟩⟩
      · exact k1 g
      · exact k2 g i
  · rintro lock tt h K ⟨hf, hc, _⟩
    exact (hn hc).elim

theorem rstocks_v (hl : l.length ≤ 100000) (ht : t.T.length ≤ 100000) : ∃ h', CallsV Try.prog 28 [stD l, .agg (tsL t)] ⟨0, []⟩ (.ret (.bool (decide (l.length ≤ 6) && !anyS l t))) h' := by
  have hall : LoopsOk Try.prog 28 [(0, lS2 l t)] := fun x hx => by
    simp only [List.mem_singleton] at hx
    subst hx
    exact ⟨by kernel_rfl, lS2_ok⟩
  obtain ⟨r, h', rfl, hc⟩ := of_callN (callL_good hmix noSp hall (un := 10) 20) (f := 28) (args := [stD l, .agg (tsL t)]) (h := ⟨0, []⟩) (K := fun r _ => r = .ret (.bool (decide (l.length ≤ 6) && !anyS l t))) (by
    refine cast (rs_ev l t _).symm ⟨fitP_self rfl, ⟨hl, ht⟩, fun h => ?_, fun h _ => ?_⟩
    · rw [h, Bool.not_false, Bool.and_true]
      congr 2
      rw [decide_eq_decide]
      omega
    · rw [h]; simp)
  exact ⟨h', hc⟩
end

/-- The document's stocks, as a row. -/
def rsT : FuncId × Spec1 := (28, fun _ args h K => match args with
  | [x, z] => ∃ (l : List Stk) (t : Tst), isD h 3 x (stD l) ∧ isD h 3 z (.agg (tsL t)) ∧ (l.length ≤ 100000 ∧ t.T.length ≤ 100000) ∧ K (.ret (.bool (decide (l.length ≤ 6) && !anyS l t))) h
  | _ => False)
theorem rsT_ok : SpOk Try.prog rsT.1 rsT.2 := by
  intro lock args h K hK
  simp only [rsT] at hK
  split at hK
  · obtain ⟨l, t, hx, hz, ⟨h1, h2⟩, hK⟩ := hK
    obtain ⟨h', hv⟩ := rstocks_v h1 h2
    exact ⟨_, h, hK, lockP_refl _ _, calls_lendDP 3 hv rfl ⟨hx, hz, trivial⟩⟩
  · exact hK.elim
end Go.Sx.Bln

/- blend: the same blends, evaluated. -/

namespace Go.Sx.Bln
open Go Go.Sx Go.Proofs
set_option maxRecDepth 1000000

end Go.Sx.Bln

/- blend: the same blends. -/

namespace Go.Sx.Bln
open Go Go.Sx Go.Proofs
set_option maxRecDepth 1000000

section
variable {V : Vt}

end

end Go.Sx.Bln

/- blend: the document's blend: volume, cost, age; evaluated. -/

namespace Go.Sx.Bln
open Go Go.Sx Go.Proofs
set_option maxRecDepth 1000000

end Go.Sx.Bln

/- blend: the document's blend: volume, cost, age. -/

namespace Go.Sx.Bln
open Go Go.Sx Go.Proofs
set_option maxRecDepth 1000000

section
variable {l : List Stk} {t : Tst} {y v c : Int} {D : List Int}

end
end Go.Sx.Bln

/- blend: the document's blend: notes; evaluated. -/

namespace Go.Sx.Bln
open Go Go.Sx Go.Proofs
set_option maxRecDepth 1000000

end Go.Sx.Bln

/- blend: the document's blend: notes. -/

namespace Go.Sx.Bln
open Go Go.Sx Go.Proofs
set_option maxRecDepth 1000000

section
variable {l : List Stk} {t : Tst} {y v c a : Int} {P : List Sp} {b : Bool} {D : List Int} {k : Nat}

end
end Go.Sx.Bln

/- blend: the document's blend: the profile. -/

namespace Go.Sx.Bln
open Go Go.Sx Go.Proofs
set_option maxRecDepth 1000000

section
variable {l : List Stk} {t : Tst} {y c a : Int} {b : Bool} {D : List Int}

end
end Go.Sx.Bln
