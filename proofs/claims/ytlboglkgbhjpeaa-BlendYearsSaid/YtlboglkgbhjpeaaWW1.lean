/- stream: Ba1 BbN1 BbN2 BbP1 BbP2 Bc1 Bc2 BbS1 BbS2 Bd1 Bd2 Be1 BfSV1 BfSV2 BfSC1 BfSC2 BfSL1 BfSL2 BfSH1 BfSH2 Bg1 Bg2 Bh1 Bh2 Bh3 Bi1 Bi2 Bi3 Bj1 Bj2 Bk1 Bk2 Bl1 Bl2 Bm1 Bm2 Bn1 Bn2 Bn3, in one text. -/
import Derived.Test.YtlboglkgbhjpeaaSxO
import Derived.Test.YtlboglkgbhjpeaaSxJ
import Derived.Test.YtlboglkgbhjpeaaSxK
import Derived.Test.YtlboglkgbhjpeaaSxN
import Derived.Test.YtlboglkgbhjpeaaSxU
import Derived.Test.YtlboglkgbhjpeaaSxY
import Derived.Test.YtlboglkgbhjpeaaProg
/- blend: stocks and tastes, basics. -/

namespace Go.Sx.Bln
open Go Go.Sx Go.Proofs
set_option maxRecDepth 100000

theorem hmix : Try.prog.follows .mixedOrders = true := by kernel_rfl
theorem none_good {un : Nat} (m : Nat) : Good Try.prog (callN Try.prog noSpec noL un m) :=
  callN_good hmix (fun _ _ h => by cases h) (fun _ _ _ _ _ _ _ h => by cases h) m
theorem good0 : Good Try.prog (callN Try.prog noSpec noL 10 20) := none_good 20
theorem noL_ok {b : Code} {n : Nat} : ∀ id T, (fun _ : Nat => (none : Option LT)) id = some T → ∀ b' ∈ blocksOf id b, LSound Try.prog true (.block id b') n T := fun _ _ h => by cases h
theorem noSp : ∀ f T, noSpec f = some T → SpOk Try.prog f T := fun _ _ h => by cases h
theorem noL_good {sp : SpecT} (h : ∀ f T, sp f = some T → SpOk Try.prog f T) : Good Try.prog (callN Try.prog sp noL 10 20) := callN_good hmix h (fun _ _ _ _ _ _ _ h => by cases h) 20

@[reducible] def I (n : Int) : VV := .int .i64 n
/-- A span. -/
structure Sp where
  lo : Int
  hi : Int
def s0 : Sp := ⟨0, 0⟩
def spG (l : List Sp) (j : Nat) : List VV := [I (l.getD j s0).lo, I (l.getD j s0).hi]
def spD (l : List Sp) : VV := .tl l.length 2 (spG l)
/-- A stock. -/
structure Stk where
  casks : Int
  vol : Int
  age : Int
  cost : Int
  prof : List Sp
def k0 : Stk := ⟨0, 0, 0, 0, []⟩
def stL (s : Stk) : List VV := [I s.casks, I s.vol, I s.age, I s.cost, spD s.prof]
def stG (l : List Stk) (j : Nat) : List VV := stL (l.getD j k0)
def stD (l : List Stk) : VV := .tl l.length 5 (stG l)
def dG (D : List Int) (j : Nat) : List VV := [I (D.getD j 0)]
def inD (D : List Int) : VV := .tl D.length 1 (dG D)
/-- A taste. -/
structure Tst where
  T : List Int
  far : Int
  least : Int
def tsL (t : Tst) : List VV := [inD t.T, I t.far, I t.least]

end Go.Sx.Bln

/- blend: N, evaluated. -/

namespace Go.Sx.Bln
open Go Go.Sx Go.Proofs
set_option maxRecDepth 1000000

def okN (n : Int) : Bool := decide (0 ≤ n ∧ n ≤ 1000)
/-- Is a note odd, as a row. -/
def rowN : FuncId × Spec1 := (82, fun _ args h K => match args with
  | [.int .i64 n] => K (.ret (.bool (!okN n))) h
  | _ => False)
def dsN : List Nat := [8, 7, 6, 4, 0, 1]
def VN (D : List Int) (i : Int) : List VV := [I i, I D.length, inD D, I 0, inD D, .func 82 [] []]
theorem N_ev (D : List Int) (i : Int) (X : VEx → List VV → List VB → Prop) : codeE Try.prog (callN Try.prog (tabS [rowN]) noL 10 20) (fun _ => none) true 10 19 0 (loopB 0 (bodyOf Try.prog 81)) (dsN.zip (VN D i)) ⟨0, ([] : List Nat).zip []⟩ (obs 0 dsN [] X) =
  (bif decide (i < (↑D.length : Int)) then
 bif decide ((0 : Int) ≤ i ∧ i < (↑D.length : Int)) then
 bif !okN (D.getD i.toNat (0 : Int)) then
 X VEx.ret [I i, I (↑D.length : Int), VV.tl D.length 1 (dG D), I i, VV.tl D.length 1 (dG D), VV.func (82 : FuncId) [] []] []
 else bif inK IntKind.i64 (i + (1 : Int)) then
 X VEx.normal [I (i + (1 : Int)), I (↑D.length : Int), VV.tl D.length 1 (dG D), I 0, VV.tl D.length 1 (dG D), VV.func (82 : FuncId) [] []] []
 else False
 else False
 else X (VEx.exit 0) [I i, I (↑D.length : Int), VV.tl D.length 1 (dG D), I 0, VV.tl D.length 1 (dG D), VV.func (82 : FuncId) [] []] []) := by kernel_rfl

def qN (D : List Int) (i : Nat) : Bool := !okN (D.getD i 0)
/-- Is there one such? -/
def anyN (D : List Int) : Bool := (List.range D.length).any (qN D)
def lN (D : List Int) : LT := fun lock t h K =>
  FitP lock h t ⟨0, ([] : List Nat).zip []⟩ (dsN.zip (VN D 0)) ∧ D.length ≤ 100000 ∧ (anyN D = false → K .normal (dsN.zip (VN D D.length)) ⟨0, ([] : List Nat).zip []⟩) ∧ (anyN D = true → ∀ i : Nat, K .ret (dsN.zip [I i, I D.length, inD D, I i, inD D, .func 82 [] []]) ⟨0, ([] : List Nat).zip []⟩)
theorem Nf_ev (D : List Int) (Q : VRes → Prop) : callN Try.prog noSpec (atF 81 [(0, lN D)]) 10 20 0 (.fn 60) [inD D, .func 82 [] []] ⟨0, []⟩ (fun r _ => Q r) =
  (FitP 0 (VH.mk 0 ([].zip [])) (dsN.zip (VN D (0 : Int))) (VH.mk 0 ([].zip [])) (dsN.zip (VN D (0 : Int))) ∧ D.length ≤ 100000 ∧ (anyN D = false → Q (VRes.ret (VV.bool (decide ((-1 : Int) ≥ (0 : Int)))))) ∧ (anyN D = true → ∀ (i : Nat), Q (VRes.ret (VV.bool (decide ((↑i : Int) ≥ (0 : Int))))))) := by kernel_rfl

end Go.Sx.Bln

/- blend: N. -/

namespace Go.Sx.Bln
open Go Go.Sx Go.Proofs
set_option maxRecDepth 1000000

section
variable {D : List Int}

def ON (D : List Int) (_ : Nat) (e : VEx) (vs : List VV) (bs : List VB) : Prop :=
  bs = [] ∧ ((anyN D = false ∧ e = .exit 0 ∧ vs = VN D D.length) ∨ (anyN D = true ∧ e = .ret ∧ ∃ i : Nat, vs = [I i, I D.length, inD D, I i, inD D, .func 82 [] []]))

theorem lN_ok (hrow : SpOk Try.prog rowN.1 rowN.2) : LSound Try.prog true (.block 0 (.loop (loopB 0 (bodyOf Try.prog 81)))) 19 (lN D) := by
  by_cases hn : D.length ≤ 100000
  · refine loop_row hmix (noL_good (tab_ok [rowN] (fun x hx => by
      simp only [List.mem_singleton] at hx
      subst hx
      exact hrow))) (un := 10) (ds := dsN) (ns := []) (nx := 0) (fun i : Nat => VN D i) (fun _ => []) (fun i => i ≤ D.length ∧ ∀ j, j < i → qN D j = false) (fun i => D.length - i) (ON D) noL_ok ?_ ?_
    · rintro i ⟨h0, h1⟩
      refine cast (N_ev D i _).symm ?_
      by_cases hlt : i < D.length
      · refine cond_dk (by omega) (cond_dk ⟨by omega, by omega⟩ ?_)
        rw [show (i : Int).toNat = i by omega]
        have key : ∀ b : Bool, b = qN D i → (bif b then RoundQ (fun i : Nat => VN D i) (fun _ => []) (fun i => i ≤ D.length ∧ ∀ j, j < i → qN D j = false) (fun i => D.length - i) (ON D) i .ret [I i, I D.length, inD D, I i, inD D, .func 82 [] []] [] else bif inK .i64 ((i : Int) + 1) then RoundQ (fun i : Nat => VN D i) (fun _ => []) (fun i => i ≤ D.length ∧ ∀ j, j < i → qN D j = false) (fun i => D.length - i) (ON D) i .normal (VN D (i + 1)) [] else False) := by
          rintro b rfl
          refine cond_i (fun h => ⟨rfl, .inr ⟨?_, rfl, i, rfl⟩⟩) (fun h => cond_r (by omega) ⟨i + 1, ⟨by omega, fun j hj => ?_⟩, by dsimp only; omega, rfl, fitBs_refl _, fun _ _ _ h => h⟩)
          · unfold anyN
            rw [List.any_eq_true]
            exact ⟨i, List.mem_range.2 hlt, h⟩
          · by_cases e : j = i
            · subst e; exact h
            · exact h1 j (by omega)
        exact key _ rfl
      · obtain rfl : i = D.length := by omega
        refine cond_d (fun h => by omega) (fun _ => ⟨rfl, .inl ⟨?_, rfl, rfl⟩⟩)
        unfold anyN
        rw [List.any_eq_false]
        intro j hj
        rw [h1 j (List.mem_range.1 hj)]
        simp
    · rintro lock t h K ⟨hf, _, k1, k2⟩
      refine ⟨0, hf, ⟨Nat.zero_le _, fun j hj => by omega⟩, ?_⟩
      rintro e vs bs ⟨rfl, ⟨g, rfl, rfl⟩ | ⟨g, rfl, i, rfl⟩⟩
      · exact k1 g
      · exact k2 g i
  · rintro lock t h K ⟨hf, hc, _⟩
    exact (hn hc).elim

theorem anyN_v (hrow : SpOk Try.prog rowN.1 rowN.2) (hn : D.length ≤ 100000) : ∃ h', CallsV Try.prog 60 [inD D, .func 82 [] []] ⟨0, []⟩ (.ret (.bool (anyN D))) h' := by
  have hall : LoopsOk Try.prog 81 [(0, lN D)] := fun x hx => by
    simp only [List.mem_singleton] at hx
    subst hx
    exact ⟨by kernel_rfl, lN_ok hrow⟩
  obtain ⟨r, h', rfl, hc⟩ := of_callN (callL_good hmix noSp hall (un := 10) 20) (f := 60) (args := [inD D, .func 82 [] []]) (h := ⟨0, []⟩) (K := fun r _ => r = .ret (.bool (anyN D))) (by
    refine cast (Nf_ev D _).symm ?_
    refine ⟨fitP_self rfl, hn, fun h => by rw [h]; rfl, fun h i => by rw [h, decide_eq_true (by omega)]⟩)
  exact ⟨h', hc⟩
end
end Go.Sx.Bln

/- blend: P, evaluated. -/

namespace Go.Sx.Bln
open Go Go.Sx Go.Proofs
set_option maxRecDepth 1000000

def okP (n : Sp) : Bool := decide (0 ≤ n.lo ∧ n.lo ≤ n.hi ∧ n.hi ≤ 1000)
/-- Is a span odd, as a row. -/
def rowP : FuncId × Spec1 := (84, fun _ args h K => match args with
  | [.agg [.int .i64 a, .int .i64 b]] => K (.ret (.bool (!okP ⟨a, b⟩))) h
  | _ => False)
def dsP : List Nat := [8, 7, 6, 4, 0, 1]
def VP (D : List Sp) (i : Int) : List VV := [I i, I D.length, spD D, I 0, spD D, .func 84 [] []]
theorem P_ev (D : List Sp) (i : Int) (X : VEx → List VV → List VB → Prop) : codeE Try.prog (callN Try.prog (tabS [rowP]) noL 10 20) (fun _ => none) true 10 19 0 (loopB 0 (bodyOf Try.prog 90)) (dsP.zip (VP D i)) ⟨0, ([] : List Nat).zip []⟩ (obs 0 dsP [] X) =
  (bif decide (i < (↑D.length : Int)) then
 bif decide ((0 : Int) ≤ i ∧ i < (↑D.length : Int)) then
 bif !okP (Sp.mk (D.getD i.toNat s0).lo (D.getD i.toNat s0).hi) then
 X VEx.ret [I i, I (↑D.length : Int), VV.tl D.length 2 (spG D), I i, VV.tl D.length 2 (spG D), VV.func (84 : FuncId) [] []] []
 else bif inK IntKind.i64 (i + (1 : Int)) then
 X VEx.normal [I (i + (1 : Int)), I (↑D.length : Int), VV.tl D.length 2 (spG D), I 0, VV.tl D.length 2 (spG D), VV.func (84 : FuncId) [] []] []
 else False
 else False
 else X (VEx.exit 0) [I i, I (↑D.length : Int), VV.tl D.length 2 (spG D), I 0, VV.tl D.length 2 (spG D), VV.func (84 : FuncId) [] []] []) := by kernel_rfl

def qP (D : List Sp) (i : Nat) : Bool := !okP (D.getD i s0)
/-- Is there one such? -/
def anyP (D : List Sp) : Bool := (List.range D.length).any (qP D)
def lP (D : List Sp) : LT := fun lock t h K =>
  FitP lock h t ⟨0, ([] : List Nat).zip []⟩ (dsP.zip (VP D 0)) ∧ D.length ≤ 100000 ∧ (anyP D = false → K .normal (dsP.zip (VP D D.length)) ⟨0, ([] : List Nat).zip []⟩) ∧ (anyP D = true → ∀ i : Nat, K .ret (dsP.zip [I i, I D.length, spD D, I i, spD D, .func 84 [] []]) ⟨0, ([] : List Nat).zip []⟩)
theorem Pf_ev (D : List Sp) (Q : VRes → Prop) : callN Try.prog noSpec (atF 90 [(0, lP D)]) 10 20 0 (.fn 85) [spD D, .func 84 [] []] ⟨0, []⟩ (fun r _ => Q r) =
  (FitP 0 (VH.mk 0 ([].zip [])) (dsP.zip (VP D (0 : Int))) (VH.mk 0 ([].zip [])) (dsP.zip (VP D (0 : Int))) ∧ D.length ≤ 100000 ∧ (anyP D = false → Q (VRes.ret (VV.bool (decide ((-1 : Int) ≥ (0 : Int)))))) ∧ (anyP D = true → ∀ (i : Nat), Q (VRes.ret (VV.bool (decide ((↑i : Int) ≥ (0 : Int))))))) := by kernel_rfl

end Go.Sx.Bln

/- blend: P. -/

namespace Go.Sx.Bln
open Go Go.Sx Go.Proofs
set_option maxRecDepth 1000000

section
variable {D : List Sp}

def OP (D : List Sp) (_ : Nat) (e : VEx) (vs : List VV) (bs : List VB) : Prop :=
  bs = [] ∧ ((anyP D = false ∧ e = .exit 0 ∧ vs = VP D D.length) ∨ (anyP D = true ∧ e = .ret ∧ ∃ i : Nat, vs = [I i, I D.length, spD D, I i, spD D, .func 84 [] []]))

theorem lP_ok (hrow : SpOk Try.prog rowP.1 rowP.2) : LSound Try.prog true (.block 0 (.loop (loopB 0 (bodyOf Try.prog 90)))) 19 (lP D) := by
  by_cases hn : D.length ≤ 100000
  · refine loop_row hmix (noL_good (tab_ok [rowP] (fun x hx => by
      simp only [List.mem_singleton] at hx
      subst hx
      exact hrow))) (un := 10) (ds := dsP) (ns := []) (nx := 0) (fun i : Nat => VP D i) (fun _ => []) (fun i => i ≤ D.length ∧ ∀ j, j < i → qP D j = false) (fun i => D.length - i) (OP D) noL_ok ?_ ?_
    · rintro i ⟨h0, h1⟩
      refine cast (P_ev D i _).symm ?_
      by_cases hlt : i < D.length
      · refine cond_dk (by omega) (cond_dk ⟨by omega, by omega⟩ ?_)
        rw [show (i : Int).toNat = i by omega]
        have key : ∀ b : Bool, b = qP D i → (bif b then RoundQ (fun i : Nat => VP D i) (fun _ => []) (fun i => i ≤ D.length ∧ ∀ j, j < i → qP D j = false) (fun i => D.length - i) (OP D) i .ret [I i, I D.length, spD D, I i, spD D, .func 84 [] []] [] else bif inK .i64 ((i : Int) + 1) then RoundQ (fun i : Nat => VP D i) (fun _ => []) (fun i => i ≤ D.length ∧ ∀ j, j < i → qP D j = false) (fun i => D.length - i) (OP D) i .normal (VP D (i + 1)) [] else False) := by
          rintro b rfl
          refine cond_i (fun h => ⟨rfl, .inr ⟨?_, rfl, i, rfl⟩⟩) (fun h => cond_r (by omega) ⟨i + 1, ⟨by omega, fun j hj => ?_⟩, by dsimp only; omega, rfl, fitBs_refl _, fun _ _ _ h => h⟩)
          · unfold anyP
            rw [List.any_eq_true]
            exact ⟨i, List.mem_range.2 hlt, h⟩
          · by_cases e : j = i
            · subst e; exact h
            · exact h1 j (by omega)
        exact key _ rfl
      · obtain rfl : i = D.length := by omega
        refine cond_d (fun h => by omega) (fun _ => ⟨rfl, .inl ⟨?_, rfl, rfl⟩⟩)
        unfold anyP
        rw [List.any_eq_false]
        intro j hj
        rw [h1 j (List.mem_range.1 hj)]
        simp
    · rintro lock t h K ⟨hf, _, k1, k2⟩
      refine ⟨0, hf, ⟨Nat.zero_le _, fun j hj => by omega⟩, ?_⟩
      rintro e vs bs ⟨rfl, ⟨g, rfl, rfl⟩ | ⟨g, rfl, i, rfl⟩⟩
      · exact k1 g
      · exact k2 g i
  · rintro lock t h K ⟨hf, hc, _⟩
    exact (hn hc).elim

theorem anyP_v (hrow : SpOk Try.prog rowP.1 rowP.2) (hn : D.length ≤ 100000) : ∃ h', CallsV Try.prog 85 [spD D, .func 84 [] []] ⟨0, []⟩ (.ret (.bool (anyP D))) h' := by
  have hall : LoopsOk Try.prog 90 [(0, lP D)] := fun x hx => by
    simp only [List.mem_singleton] at hx
    subst hx
    exact ⟨by kernel_rfl, lP_ok hrow⟩
  obtain ⟨r, h', rfl, hc⟩ := of_callN (callL_good hmix noSp hall (un := 10) 20) (f := 85) (args := [spD D, .func 84 [] []]) (h := ⟨0, []⟩) (K := fun r _ => r = .ret (.bool (anyP D))) (by
    refine cast (Pf_ev D _).symm ?_
    refine ⟨fitP_self rfl, hn, fun h => by rw [h]; rfl, fun h i => by rw [h, decide_eq_true (by omega)]⟩)
  exact ⟨h', hc⟩
end
end Go.Sx.Bln

/- blend: valid stocks, evaluated. -/

namespace Go.Sx.Bln
open Go Go.Sx Go.Proofs
set_option maxRecDepth 1000000

theorem n82_ev (n : Int) (Q : VRes → Prop) : callN Try.prog noSpec noL 10 20 0 (.fn 82) [I n] ⟨0, []⟩ (fun r _ => Q r) =
  (bif decide ((0 : Int) ≤ n) then
 Q (VRes.ret (VV.bool !decide (n ≤ (1000 : Int))))
 else Q (VRes.ret (VV.bool !false))) := by kernel_rfl

theorem n84_ev (n : Sp) (Q : VRes → Prop) : callN Try.prog noSpec noL 10 20 0 (.fn 84) [.agg [I n.lo, I n.hi]] ⟨0, []⟩ (fun r _ => Q r) =
  (bif decide (n.lo < (0 : Int)) then
 Q (VRes.ret (VV.bool true))
 else bif decide (n.lo > n.hi) then
 Q (VRes.ret (VV.bool true))
 else Q (VRes.ret (VV.bool (decide (n.hi > (1000 : Int)))))) := by kernel_rfl

/-- Is a note odd, in a list. -/
def cfN : FuncId × Spec1 := (60, fun _ args h K => match args with
  | [x, .func 82 [] []] => ∃ D : List Int, isD h 1 x (inD D) ∧ D.length ≤ 100000 ∧ K (.ret (.bool (anyN D))) h
  | _ => False)
def cfP : FuncId × Spec1 := (85, fun _ args h K => match args with
  | [x, .func 84 [] []] => ∃ D : List Sp, isD h 1 x (spD D) ∧ D.length ≤ 100000 ∧ K (.ret (.bool (anyP D))) h
  | _ => False)
theorem ta_ev (t : Tst) (Q : VRes → Prop) : callN Try.prog (tabS [cfN]) noL 10 20 0 (.fn 67) [.agg (tsL t)] ⟨0, []⟩ (fun r _ => Q r) =
  (bif decide ((1 : Int) ≤ (↑t.T.length : Int)) then
 bif decide ((↑t.T.length : Int) ≤ (4 : Int)) then
 ∃ D, isD (VH.mk (0 + 1) [(0, VB.cells [VV.tl t.T.length 1 (dG t.T), I t.far, I t.least] 25)]) 1 (VV.tl t.T.length 1 (dG t.T)) (inD D) ∧ D.length ≤ 100000 ∧ bif !anyN D then
 bif decide ((0 : Int) ≤ t.far) then
 bif decide (t.far ≤ (1000 : Int)) then
 bif decide ((0 : Int) ≤ t.least) then
 Q (VRes.ret (VV.bool (decide (t.least ≤ (100 : Int)))))
 else Q (VRes.ret (VV.bool false))
 else Q (VRes.ret (VV.bool false))
 else Q (VRes.ret (VV.bool false))
 else Q (VRes.ret (VV.bool false))
 else Q (VRes.ret (VV.bool false))
 else Q (VRes.ret (VV.bool false))) := by kernel_rfl

theorem sk_ev (s : Stk) (t : Tst) (Q : VRes → Prop) : callN Try.prog (tabS [cfP]) noL 10 20 0 (.fn 69) [.agg (stL s), .tp (tsL t)] ⟨0, []⟩ (fun r _ => Q r) =
  (bif decide ((0 : Int) ≤ s.casks) then
 bif decide (s.casks ≤ (6 : Int)) then
 bif decide ((1 : Int) ≤ s.vol) then
 bif decide (s.vol ≤ (65536 : Int)) then
 bif decide ((0 : Int) ≤ s.age) then
 bif decide (s.age ≤ (100 : Int)) then
 bif decide ((0 : Int) ≤ s.cost) then
 bif decide (s.cost ≤ (1048576 : Int)) then
 bif decide ((↑s.prof.length : Int) = (↑t.T.length : Int)) then
 ∃ D, isD (VH.mk (3) [(2, VB.cells [VV.tl t.T.length 1 (dG t.T), I t.far, I t.least] 25), (1, VB.cells [I s.casks, I s.vol, I s.age, I s.cost, VV.tl s.prof.length 2 (spG s.prof)] 32), (0, VB.cells [I s.casks, I s.vol, I s.age, I s.cost, VV.tl s.prof.length 2 (spG s.prof)] 32)]) 1 (VV.tl s.prof.length 2 (spG s.prof)) (spD D) ∧ D.length ≤ 100000 ∧ Q (VRes.ret (VV.bool !!anyP D))
 else Q (VRes.ret (VV.bool !false))
 else Q (VRes.ret (VV.bool !false))
 else Q (VRes.ret (VV.bool !false))
 else Q (VRes.ret (VV.bool !false))
 else Q (VRes.ret (VV.bool !false))
 else Q (VRes.ret (VV.bool !false))
 else Q (VRes.ret (VV.bool !false))
 else Q (VRes.ret (VV.bool !false))
 else Q (VRes.ret (VV.bool !false))) := by kernel_rfl

end Go.Sx.Bln

/- blend: valid stocks. -/

namespace Go.Sx.Bln
open Go Go.Sx Go.Proofs
set_option maxRecDepth 1000000

theorem rowN_ok : SpOk Try.prog rowN.1 rowN.2 := by
  intro lock args h K hK
  simp only [rowN] at hK
  split at hK
  · rename_i n
    obtain ⟨r, h', rfl, hc⟩ := of_callN good0 (f := 82) (args := [I n]) (h := ⟨0, []⟩) (K := fun r _ => r = .ret (.bool (!okN n))) (by
      refine cast (n82_ev n _).symm ?_
      unfold okN
      refine cond_d (fun h1 => ?_) (fun h1 => ?_)
      · by_cases h2 : n ≤ 1000
        · rw [decide_eq_true h2, decide_eq_true ⟨h1, h2⟩]
        · rw [decide_eq_false h2, decide_eq_false (fun h => h2 h.2)]
      · rw [decide_eq_false (fun h => h1 h.1)])
    exact ⟨_, h, hK, lockP_refl _ _, calls_lendDP 1 hc rfl ⟨⟨rfl, rfl⟩, trivial⟩⟩
  · exact hK.elim
theorem rowP_ok : SpOk Try.prog rowP.1 rowP.2 := by
  intro lock args h K hK
  simp only [rowP] at hK
  split at hK
  · rename_i a b
    obtain ⟨r, h', rfl, hc⟩ := of_callN good0 (f := 84) (args := [.agg [I a, I b]]) (h := ⟨0, []⟩) (K := fun r _ => r = .ret (.bool (!okP ⟨a, b⟩))) (by
      refine cast (n84_ev ⟨a, b⟩ _).symm ?_
      unfold okP
      refine cond_d (fun h1 => ?_) (fun h1 => cond_d (fun h2 => ?_) (fun h2 => ?_)) <;> dsimp only at *
      · rw [decide_eq_false (by omega)]; rfl
      · rw [decide_eq_false (by omega)]; rfl
      · by_cases h3 : b > 1000
        · rw [decide_eq_true h3, decide_eq_false (by omega)]; rfl
        · rw [decide_eq_false h3, decide_eq_true (by omega)]; rfl)
    exact ⟨_, h, hK, lockP_refl _ _, calls_lendDP 2 hc rfl ⟨⟨⟨rfl, rfl⟩, ⟨rfl, rfl⟩, trivial⟩, trivial⟩⟩
  · exact hK.elim
theorem cfN_ok : SpOk Try.prog cfN.1 cfN.2 := by
  intro lock args h K hK
  simp only [cfN] at hK
  split at hK
  · obtain ⟨D, hx, hn, hK⟩ := hK
    obtain ⟨h', hc⟩ := anyN_v rowN_ok hn
    exact ⟨_, h, hK, lockP_refl _ _, calls_lendDP 1 hc rfl ⟨hx, ⟨rfl, trivial, trivial⟩, trivial⟩⟩
  · exact hK.elim
theorem cfP_ok : SpOk Try.prog cfP.1 cfP.2 := by
  intro lock args h K hK
  simp only [cfP] at hK
  split at hK
  · obtain ⟨D, hx, hn, hK⟩ := hK
    obtain ⟨h', hc⟩ := anyP_v rowP_ok hn
    exact ⟨_, h, hK, lockP_refl _ _, calls_lendDP 1 hc rfl ⟨hx, ⟨rfl, trivial, trivial⟩, trivial⟩⟩
  · exact hK.elim
theorem tab1 {T : FuncId × Spec1} (h : SpOk Try.prog T.1 T.2) : ∀ f U, tabS [T] f = some U → SpOk Try.prog f U := tab_ok _ (fun x hx => by
  simp only [List.mem_singleton] at hx
  subst hx
  exact h)

def okT (t : Tst) : Bool := decide (1 ≤ t.T.length ∧ t.T.length ≤ 4) && !anyN t.T && decide (0 ≤ t.far ∧ t.far ≤ 1000) && decide (0 ≤ t.least ∧ t.least ≤ 100)
def okS (t : Tst) (s : Stk) : Bool := decide ((0 ≤ s.casks ∧ s.casks ≤ 6) ∧ (1 ≤ s.vol ∧ s.vol ≤ 65536) ∧ (0 ≤ s.age ∧ s.age ≤ 100) ∧ (0 ≤ s.cost ∧ s.cost ≤ 1048576) ∧ s.prof.length = t.T.length) && !anyP s.prof

theorem taste_v (t : Tst) : ∃ h', CallsV Try.prog 67 [.agg (tsL t)] ⟨0, []⟩ (.ret (.bool (okT t))) h' := by
  obtain ⟨r, h', rfl, hc⟩ := of_callN (noL_good (tab1 cfN_ok)) (f := 67) (args := [.agg (tsL t)]) (h := ⟨0, []⟩) (K := fun r _ => r = .ret (.bool (okT t))) (by
    refine cast (ta_ev t _).symm ?_
    have e : ∀ x : Bool, okT t = x → VRes.ret (VV.bool x) = VRes.ret (VV.bool (okT t)) := fun x hx => by rw [hx]
    unfold okT at e ⊢
    refine cond_d (fun h1 => cond_d (fun h2 => ⟨t.T, ⟨rfl, rfl, fun _ _ => rfl⟩, by omega, cond_i (fun h3 => cond_d (fun h4 => cond_d (fun h5 => cond_d (fun h6 => e _ ?_) (fun h6 => e _ ?_)) (fun h5 => e _ ?_)) (fun h4 => e _ ?_)) (fun h3 => e _ ?_)⟩) (fun h2 => e _ ?_)) (fun h1 => e _ ?_)
    · rw [h3, decide_eq_true (p := 1 ≤ t.T.length ∧ _) (by omega), decide_eq_true (p := 0 ≤ t.far ∧ _) (by omega), Bool.true_and, Bool.true_and, Bool.true_and, decide_eq_decide]
      omega
    · rw [decide_eq_false (p := 0 ≤ t.least ∧ _) (by omega), Bool.and_false]
    · rw [decide_eq_false (p := 0 ≤ t.far ∧ _) (by omega), Bool.and_false, Bool.false_and]
    · rw [decide_eq_false (p := 0 ≤ t.far ∧ _) (by omega), Bool.and_false, Bool.false_and]
    · rw [h3, Bool.and_false, Bool.false_and, Bool.false_and]
    · rw [decide_eq_false (p := 1 ≤ t.T.length ∧ _) (by omega)]; rfl
    · rw [decide_eq_false (p := 1 ≤ t.T.length ∧ _) (by omega)]; rfl)
  exact ⟨h', hc⟩

theorem stock_v (s : Stk) (t : Tst) (ht : t.T.length ≤ 4) : ∃ h', CallsV Try.prog 69 [.agg (stL s), .tp (tsL t)] ⟨0, []⟩ (.ret (.bool (!okS t s))) h' := by
  obtain ⟨r, h', rfl, hc⟩ := of_callN (noL_good (tab1 cfP_ok)) (f := 69) (args := [.agg (stL s), .tp (tsL t)]) (h := ⟨0, []⟩) (K := fun r _ => r = .ret (.bool (!okS t s))) (by
    refine cast (sk_ev s t _).symm ?_
    have e : ¬ ((0 ≤ s.casks ∧ s.casks ≤ 6) ∧ (1 ≤ s.vol ∧ s.vol ≤ 65536) ∧ (0 ≤ s.age ∧ s.age ≤ 100) ∧ (0 ≤ s.cost ∧ s.cost ≤ 1048576) ∧ s.prof.length = t.T.length) → VRes.ret (VV.bool (!false)) = VRes.ret (VV.bool (!okS t s)) := fun h => by
      unfold okS; rw [decide_eq_false h]; rfl
    refine cond_d (fun h1 => cond_d (fun h2 => cond_d (fun h3 => cond_d (fun h4 => cond_d (fun h5 => cond_d (fun h6 => cond_d (fun h7 => cond_d (fun h8 => cond_d (fun h9 => ⟨s.prof, ⟨rfl, rfl, fun _ _ => rfl⟩, by omega, ?_⟩) (fun h => e (by omega))) (fun h => e (by omega))) (fun h => e (by omega))) (fun h => e (by omega))) (fun h => e (by omega))) (fun h => e (by omega))) (fun h => e (by omega))) (fun h => e (by omega))) (fun h => e (by omega))
    unfold okS
    rw [decide_eq_true (p := (0 ≤ s.casks ∧ _) ∧ _) (by omega), Bool.true_and])
  exact ⟨h', hc⟩

/-- Is a taste valid, as a row. -/
def taT : FuncId × Spec1 := (67, fun _ args h K => match args with
  | [x] => ∃ t : Tst, isD h 2 x (.agg (tsL t)) ∧ K (.ret (.bool (okT t))) h
  | _ => False)
theorem taT_ok : SpOk Try.prog taT.1 taT.2 := by
  intro lock args h K hK
  simp only [taT] at hK
  split at hK
  · obtain ⟨t, hx, hK⟩ := hK
    obtain ⟨h', hc⟩ := taste_v t
    exact ⟨_, h, hK, lockP_refl _ _, calls_lendDP 2 hc rfl ⟨hx, trivial⟩⟩
  · exact hK.elim
end Go.Sx.Bln

/- blend: S, evaluated. -/

namespace Go.Sx.Bln
open Go Go.Sx Go.Proofs
set_option maxRecDepth 1000000

/-- Is a stock odd, as a row. -/
def rowS : FuncId × Spec1 := (69, fun _ args h K => match args with
  | [.agg cs, .tp ts] => ∃ (s : Stk) (t : Tst), cs = stL s ∧ ts = tsL t ∧ t.T.length ≤ 4 ∧ K (.ret (.bool (!okS t s))) h
  | _ => False)
def dsS : List Nat := [8, 7, 6, 4, 0, 1]
def VS (l : List Stk) (tt : Tst) (i : Int) : List VV := [I i, I l.length, stD l, I 0, stD l, .func 69 [] [.tp (tsL tt)]]
theorem S_ev (l : List Stk) (tt : Tst) (i : Int) (X : VEx → List VV → List VB → Prop) : codeE Try.prog (callN Try.prog (tabS [rowS]) noL 10 20) (fun _ => none) true 10 19 0 (loopB 0 (bodyOf Try.prog 83)) (dsS.zip (VS l tt i)) ⟨0, ([] : List Nat).zip []⟩ (obs 0 dsS [] X) =
  (bif decide (i < (↑l.length : Int)) then
 bif decide ((0 : Int) ≤ i ∧ i < (↑l.length : Int)) then
 ∃ (s : Stk) (t : Tst), [I (l.getD i.toNat k0).casks, I (l.getD i.toNat k0).vol, I (l.getD i.toNat k0).age, I (l.getD i.toNat k0).cost, VV.tl (l.getD i.toNat k0).prof.length 2 (spG (l.getD i.toNat k0).prof)] = stL s ∧ tsL tt = tsL t ∧ t.T.length ≤ 4 ∧ bif !okS t s then
 X VEx.ret [I i, I (↑l.length : Int), VV.tl l.length 5 (stG l), I i, VV.tl l.length 5 (stG l), VV.func (69 : FuncId) [] [VV.tp [VV.tl tt.T.length 1 (dG tt.T), I tt.far, I tt.least]]] []
 else bif inK IntKind.i64 (i + (1 : Int)) then
 X VEx.normal [I (i + (1 : Int)), I (↑l.length : Int), VV.tl l.length 5 (stG l), I 0, VV.tl l.length 5 (stG l), VV.func (69 : FuncId) [] [VV.tp [VV.tl tt.T.length 1 (dG tt.T), I tt.far, I tt.least]]] []
 else False
 else False
 else X (VEx.exit 0) [I i, I (↑l.length : Int), VV.tl l.length 5 (stG l), I 0, VV.tl l.length 5 (stG l), VV.func (69 : FuncId) [] [VV.tp [VV.tl tt.T.length 1 (dG tt.T), I tt.far, I tt.least]]] []) := by kernel_rfl

def qS (l : List Stk) (tt : Tst) (i : Nat) : Bool := !okS tt (l.getD i k0)
/-- Is there one such? -/
def anyS (l : List Stk) (tt : Tst) : Bool := (List.range l.length).any (qS l tt)
def lS (l : List Stk) (tt : Tst) : LT := fun lock t h K =>
  FitP lock h t ⟨0, ([] : List Nat).zip []⟩ (dsS.zip (VS l tt 0)) ∧ l.length ≤ 100000 ∧ (anyS l tt = false → K .normal (dsS.zip (VS l tt l.length)) ⟨0, ([] : List Nat).zip []⟩) ∧ (anyS l tt = true → ∀ i : Nat, K .ret (dsS.zip [I i, I l.length, stD l, I i, stD l, .func 69 [] [.tp (tsL tt)]]) ⟨0, ([] : List Nat).zip []⟩)
theorem Sf_ev (l : List Stk) (tt : Tst) (Q : VRes → Prop) : callN Try.prog noSpec (atF 83 [(0, lS l tt)]) 10 20 0 (.fn 68) [stD l, .func 69 [] [.tp (tsL tt)]] ⟨0, []⟩ (fun r _ => Q r) =
  (FitP 0 (VH.mk 0 ([].zip [])) (dsS.zip (VS l tt (0 : Int))) (VH.mk 0 ([].zip [])) (dsS.zip (VS l tt (0 : Int))) ∧ l.length ≤ 100000 ∧ (anyS l tt = false → Q (VRes.ret (VV.bool (decide ((-1 : Int) ≥ (0 : Int)))))) ∧ (anyS l tt = true → ∀ (i : Nat), Q (VRes.ret (VV.bool (decide ((↑i : Int) ≥ (0 : Int))))))) := by kernel_rfl

end Go.Sx.Bln

/- blend: S. -/

namespace Go.Sx.Bln
open Go Go.Sx Go.Proofs
set_option maxRecDepth 1000000

section
variable {l : List Stk} {tt : Tst}

def OS (l : List Stk) (tt : Tst) (_ : Nat) (e : VEx) (vs : List VV) (bs : List VB) : Prop :=
  bs = [] ∧ ((anyS l tt = false ∧ e = .exit 0 ∧ vs = VS l tt l.length) ∨ (anyS l tt = true ∧ e = .ret ∧ ∃ i : Nat, vs = [I i, I l.length, stD l, I i, stD l, .func 69 [] [.tp (tsL tt)]]))

theorem lS_ok (ht : tt.T.length ≤ 4) (hrow : SpOk Try.prog rowS.1 rowS.2) : LSound Try.prog true (.block 0 (.loop (loopB 0 (bodyOf Try.prog 83)))) 19 (lS l tt) := by
  by_cases hn : l.length ≤ 100000
  · refine loop_row hmix (noL_good (tab_ok [rowS] (fun x hx => by
      simp only [List.mem_singleton] at hx
      subst hx
      exact hrow))) (un := 10) (ds := dsS) (ns := []) (nx := 0) (fun i : Nat => VS l tt i) (fun _ => []) (fun i => i ≤ l.length ∧ ∀ j, j < i → qS l tt j = false) (fun i => l.length - i) (OS l tt) noL_ok ?_ ?_
    · rintro i ⟨h0, h1⟩
      refine cast (S_ev l tt i _).symm ?_
      by_cases hlt : i < l.length
      · refine cond_dk (by omega) (cond_dk ⟨by omega, by omega⟩ ?_)
        rw [show (i : Int).toNat = i by omega]
        have key : ∀ b : Bool, b = qS l tt i → (bif b then RoundQ (fun i : Nat => VS l tt i) (fun _ => []) (fun i => i ≤ l.length ∧ ∀ j, j < i → qS l tt j = false) (fun i => l.length - i) (OS l tt) i .ret [I i, I l.length, stD l, I i, stD l, .func 69 [] [.tp (tsL tt)]] [] else bif inK .i64 ((i : Int) + 1) then RoundQ (fun i : Nat => VS l tt i) (fun _ => []) (fun i => i ≤ l.length ∧ ∀ j, j < i → qS l tt j = false) (fun i => l.length - i) (OS l tt) i .normal (VS l tt (i + 1)) [] else False) := by
          rintro b rfl
          refine cond_i (fun h => ⟨rfl, .inr ⟨?_, rfl, i, rfl⟩⟩) (fun h => cond_r (by omega) ⟨i + 1, ⟨by omega, fun j hj => ?_⟩, by dsimp only; omega, rfl, fitBs_refl _, fun _ _ _ h => h⟩)
          · unfold anyS
            rw [List.any_eq_true]
            exact ⟨i, List.mem_range.2 hlt, h⟩
          · by_cases e : j = i
            · subst e; exact h
            · exact h1 j (by omega)
        exact ⟨l.getD i k0, tt, rfl, rfl, ht, key _ rfl⟩
      · obtain rfl : i = l.length := by omega
        refine cond_d (fun h => by omega) (fun _ => ⟨rfl, .inl ⟨?_, rfl, rfl⟩⟩)
        unfold anyS
        rw [List.any_eq_false]
        intro j hj
        rw [h1 j (List.mem_range.1 hj)]
        simp
    · rintro lock t h K ⟨hf, _, k1, k2⟩
      refine ⟨0, hf, ⟨Nat.zero_le _, fun j hj => by omega⟩, ?_⟩
      rintro e vs bs ⟨rfl, ⟨g, rfl, rfl⟩ | ⟨g, rfl, i, rfl⟩⟩
      · exact k1 g
      · exact k2 g i
  · rintro lock t h K ⟨hf, hc, _⟩
    exact (hn hc).elim

theorem anyS_v (ht : tt.T.length ≤ 4) (hrow : SpOk Try.prog rowS.1 rowS.2) (hn : l.length ≤ 100000) : ∃ h', CallsV Try.prog 68 [stD l, .func 69 [] [.tp (tsL tt)]] ⟨0, []⟩ (.ret (.bool (anyS l tt))) h' := by
  have hall : LoopsOk Try.prog 83 [(0, lS l tt)] := fun x hx => by
    simp only [List.mem_singleton] at hx
    subst hx
    exact ⟨by kernel_rfl, lS_ok ht hrow⟩
  obtain ⟨r, h', rfl, hc⟩ := of_callN (callL_good hmix noSp hall (un := 10) 20) (f := 68) (args := [stD l, .func 69 [] [.tp (tsL tt)]]) (h := ⟨0, []⟩) (K := fun r _ => r = .ret (.bool (anyS l tt))) (by
    refine cast (Sf_ev l tt _).symm ?_
    refine ⟨fitP_self rfl, hn, fun h => by rw [h]; rfl, fun h i => by rw [h, decide_eq_true (by omega)]⟩)
  exact ⟨h', hc⟩
end
end Go.Sx.Bln

/- blend: valid stocks and a taste, evaluated. -/

namespace Go.Sx.Bln
open Go Go.Sx Go.Proofs
set_option maxRecDepth 1000000

def cfS : FuncId × Spec1 := (68, fun _ args h K => match args with
  | [x, .func 69 [] [c]] => ∃ (l : List Stk) (t : Tst), isD h 3 x (stD l) ∧ isD h 2 c (.tp (tsL t)) ∧ (l.length ≤ 6 ∧ t.T.length ≤ 4) ∧ K (.ret (.bool (anyS l t))) h
  | _ => False)
theorem as_ev (l : List Stk) (t : Tst) (Q : VRes → Prop) : callN Try.prog (tabS [taT, cfS]) noL 10 20 0 (.fn 38) [stD l, .agg (tsL t)] ⟨0, []⟩ (fun r _ => Q r) =
  (∃ (t_1 : Tst), isD (VH.mk (0 + 1) [(0, VB.cells [VV.tl t.T.length 1 (dG t.T), I t.far, I t.least] 25)]) 2 (VV.agg [VV.tl t.T.length 1 (dG t.T), I t.far, I t.least]) (VV.agg (tsL t_1)) ∧ bif okT t_1 then
 bif decide ((↑l.length : Int) ≤ (6 : Int)) then
 ∃ (l_1 : List Stk) (t_2 : Tst), isD (VH.mk (0 + 1) [(0, VB.cells [VV.tl t.T.length 1 (dG t.T), I t.far, I t.least] 25)]) 3 (VV.tl l.length 5 (stG l)) (stD l_1) ∧ isD (VH.mk (0 + 1) [(0, VB.cells [VV.tl t.T.length 1 (dG t.T), I t.far, I t.least] 25)]) 2 (VV.ptr (VA.own 0 0)) (VV.tp (tsL t_2)) ∧ (l_1.length ≤ 6 ∧ t_2.T.length ≤ 4) ∧ Q (VRes.ret (VV.bool !anyS l_1 t_2))
 else Q (VRes.ret (VV.bool false))
 else Q (VRes.ret (VV.bool false))) := by kernel_rfl

end Go.Sx.Bln

/- blend: valid stocks and a taste. -/

namespace Go.Sx.Bln
open Go Go.Sx Go.Proofs
set_option maxRecDepth 1000000

theorem rowS_ok : SpOk Try.prog rowS.1 rowS.2 := by
  intro lock args h K hK
  simp only [rowS] at hK
  split at hK
  · obtain ⟨s, t, rfl, rfl, ht, hK⟩ := hK
    obtain ⟨h', hc⟩ := stock_v s t ht
    exact ⟨_, h, hK, lockP_refl _ _, calls_lendDP 2 hc rfl ⟨⟨⟨rfl, rfl⟩, ⟨rfl, rfl⟩, ⟨rfl, rfl⟩, ⟨rfl, rfl⟩, ⟨rfl, rfl, fun _ _ => rfl⟩, trivial⟩, rfl, trivial⟩⟩
  · exact hK.elim
theorem cfS_ok : SpOk Try.prog cfS.1 cfS.2 := by
  intro lock args h K hK
  simp only [cfS] at hK
  split at hK
  · obtain ⟨l, t, hx, hc, ⟨h1, h2⟩, hK⟩ := hK
    obtain ⟨h', hv⟩ := anyS_v (l := l) h2 rowS_ok (by omega)
    exact ⟨_, h, hK, lockP_refl _ _, calls_lendDP 3 hv rfl ⟨hx, ⟨rfl, trivial, hc, trivial⟩, trivial⟩⟩
  · exact hK.elim
def okAll (l : List Stk) (t : Tst) : Bool := okT t && decide (l.length ≤ 6) && !anyS l t
theorem stocks_v (l : List Stk) (t : Tst) : ∃ h', CallsV Try.prog 38 [stD l, .agg (tsL t)] ⟨0, []⟩ (.ret (.bool (okAll l t))) h' := by
  obtain ⟨r, h', rfl, hc⟩ := of_callN (noL_good (tab_ok [taT, cfS] (fun x hx => by
    simp only [List.mem_cons, List.not_mem_nil, or_false] at hx
    rcases hx with rfl | rfl
    · exact taT_ok
    · exact cfS_ok))) (f := 38) (args := [stD l, .agg (tsL t)]) (h := ⟨0, []⟩) (K := fun r _ => r = .ret (.bool (okAll l t))) (by
    refine cast (as_ev l t _).symm ⟨t, ⟨⟨rfl, rfl, fun _ _ => rfl⟩, ⟨rfl, rfl⟩, ⟨rfl, rfl⟩, trivial⟩, ?_⟩
    unfold okAll
    refine cond_i (fun h1 => cond_d (fun h2 => ?_) (fun h2 => ?_)) (fun h1 => by rw [h1]; rfl)
    · refine ⟨l, t, ⟨rfl, rfl, fun _ _ => rfl⟩, ⟨_, _, rfl, ⟨rfl, rfl, fun _ _ => rfl⟩, ⟨rfl, rfl⟩, ⟨rfl, rfl⟩, trivial⟩, ⟨by omega, ?_⟩, ?_⟩
      · unfold okT at h1
        simp only [Bool.and_eq_true, decide_eq_true_eq] at h1
        omega
      · rw [h1, decide_eq_true (show l.length ≤ 6 by omega)]; rfl
    · rw [decide_eq_false (show ¬ l.length ≤ 6 by omega), Bool.and_false]; rfl)
  exact ⟨h', hc⟩

/-- Are stocks valid, as a row. -/
def asT : FuncId × Spec1 := (38, fun _ args h K => match args with
  | [x, y] => ∃ (l : List Stk) (t : Tst), isD h 2 x (stD l) ∧ isD h 2 y (.agg (tsL t)) ∧ K (.ret (.bool (okAll l t))) h
  | _ => False)
theorem asT_ok : SpOk Try.prog asT.1 asT.2 := by
  intro lock args h K hK
  simp only [asT] at hK
  split at hK
  · obtain ⟨l, t, hx, hy, hK⟩ := hK
    obtain ⟨h', hc⟩ := stocks_v l t
    exact ⟨_, h, hK, lockP_refl _ _, calls_lendDP 2 hc rfl ⟨hx, hy, trivial⟩⟩
  · exact hK.elim
end Go.Sx.Bln

/- blend: choices and sums. -/

namespace Go.Sx.Bln
open Go Go.Sx Go.Proofs
set_option maxRecDepth 100000

/-- A choice: six numbers. -/
abbrev ch (n : Nat → Int) : List Int := [n 0, n 1, n 2, n 3, n 4, n 5]
def nL (n : Nat → Int) : List VV := [I (n 0), I (n 1), I (n 2), I (n 3), I (n 4), I (n 5)]
theorem ch_get {n : Nat → Int} : ∀ {i : Nat}, i < 6 → (ch n).getD i 0 = n i
  | 0, _ => rfl
  | 1, _ => rfl
  | 2, _ => rfl
  | 3, _ => rfl
  | 4, _ => rfl
  | 5, _ => rfl
  | _ + 6, h => by omega
def nB (n : Nat → Int) : Prop := ∀ i, i < 6 → 0 ≤ n i ∧ n i ≤ 6
def stB (s : Stk) : Prop := (0 ≤ s.casks ∧ s.casks ≤ 6) ∧ (1 ≤ s.vol ∧ s.vol ≤ 65536) ∧ (0 ≤ s.age ∧ s.age ≤ 100) ∧ (0 ≤ s.cost ∧ s.cost ≤ 1048576)
def lB (l : List Stk) : Prop := l.length ≤ 6 ∧ ∀ i, i < l.length → stB (l.getD i k0)
def pB (l : List Stk) (m : Nat) : Prop := ∀ i, i < l.length → (l.getD i k0).prof.length = m ∧ ∀ k, k < m → 0 ≤ ((l.getD i k0).prof.getD k s0).lo ∧ ((l.getD i k0).prof.getD k s0).lo ≤ ((l.getD i k0).prof.getD k s0).hi ∧ ((l.getD i k0).prof.getD k s0).hi ≤ 1000

def sumF (f : Nat → Int) : Nat → Int
  | 0 => 0
  | k + 1 => sumF f k + f k
theorem sumF_bd {f : Nat → Int} {M : Int} : ∀ k : Nat, (∀ i, i < k → 0 ≤ f i ∧ f i ≤ M) → 0 ≤ sumF f k ∧ sumF f k ≤ k * M
  | 0, _ => by simp [sumF]
  | k + 1, h => by
    obtain ⟨h1, h2⟩ := sumF_bd (M := M) k (fun i hi => h i (by omega))
    obtain ⟨h3, h4⟩ := h k (by omega)
    unfold sumF
    have e : ((k + 1 : Nat) : Int) * M = (k : Int) * M + M := by rw [Int.natCast_add, Int.add_mul]; simp
    rw [e]
    omega

theorem mul_bd {a b A B : Int} (h1 : 0 ≤ a ∧ a ≤ A) (h2 : 0 ≤ b ∧ b ≤ B) : 0 ≤ a * b ∧ a * b ≤ A * B := ⟨Int.mul_nonneg h1.1 h2.1, by
  calc a * b ≤ A * b := Int.mul_le_mul_of_nonneg_right h1.2 h2.1
    _ ≤ A * B := Int.mul_le_mul_of_nonneg_left h2.2 (by omega)⟩

/-- What valid stocks are like. -/
theorem okAll_l {l : List Stk} {t : Tst} (h : okAll l t = true) : lB l ∧ pB l t.T.length ∧ okT t = true ∧ 1 ≤ t.T.length ∧ t.T.length ≤ 4 := by
  unfold okAll at h
  simp only [Bool.and_eq_true, decide_eq_true_eq, Bool.not_eq_true'] at h
  obtain ⟨⟨h1, h2⟩, h3⟩ := h
  have hs : ∀ i, i < l.length → okS t (l.getD i k0) = true := fun i hi => by
    unfold anyS at h3
    rw [List.any_eq_false] at h3
    have := h3 i (List.mem_range.2 hi)
    unfold qS at this
    simpa using this
  have h4 := h1
  unfold okT at h4
  simp only [Bool.and_eq_true, decide_eq_true_eq, Bool.not_eq_true'] at h4
  refine ⟨⟨h2, fun i hi => ?_⟩, fun i hi => ?_, h1, h4.1.1.1.1, h4.1.1.1.2⟩
  · have := hs i hi
    unfold okS at this
    simp only [Bool.and_eq_true, decide_eq_true_eq] at this
    obtain ⟨⟨a, b, c, d, _⟩, _⟩ := this
    exact ⟨a, b, c, d⟩
  · have := hs i hi
    unfold okS at this
    simp only [Bool.and_eq_true, decide_eq_true_eq, Bool.not_eq_true'] at this
    obtain ⟨⟨_, _, _, _, hl⟩, hp⟩ := this
    refine ⟨hl, fun k hk => ?_⟩
    unfold anyP at hp
    rw [List.any_eq_false] at hp
    have := hp k (List.mem_range.2 (by omega))
    unfold qP okP at this
    simpa using this

/-! The terms. -/
abbrev tmV (l : List Stk) (n : Nat → Int) (i : Nat) : Int := n i * (l.getD i k0).vol
abbrev tmC (l : List Stk) (n : Nat → Int) (i : Nat) : Int := n i * (l.getD i k0).cost
abbrev tmL (l : List Stk) (n : Nat → Int) (k i : Nat) : Int := n i * (l.getD i k0).vol * ((l.getD i k0).prof.getD k s0).lo
abbrev tmH (l : List Stk) (n : Nat → Int) (k i : Nat) : Int := n i * (l.getD i k0).vol * ((l.getD i k0).prof.getD k s0).hi
end Go.Sx.Bln

/- blend: sum with closure 87, evaluated. -/

namespace Go.Sx.Bln
open Go Go.Sx Go.Proofs
set_option maxRecDepth 1000000

def cloSV (l : List Stk) (n : Nat → Int) : VV := .func 87 [] [.tp (nL n)]
def dsSV : List Nat := [9, 8, 7, 4, 0, 1]
def VSV (l : List Stk) (n : Nat → Int) (i a : Int) : List VV := [I i, I l.length, stD l, I a, stD l, cloSV l n]
theorem SV_ev (l : List Stk) (n : Nat → Int) (i a : Int) (X : VEx → List VV → List VB → Prop) : codeE Try.prog (callN Try.prog noSpec noL 10 20) (fun _ => none) true 10 22 0 (loopB 0 (bodyOf Try.prog 64)) (dsSV.zip (VSV l n i a)) ⟨0, ([] : List Nat).zip []⟩ (obs 0 dsSV [] X) =
  (bif decide (i < (↑l.length : Int)) then
 bif decide ((0 : Int) ≤ i ∧ i < (↑l.length : Int)) then
 bif decide ((0 : Int) ≤ i ∧ i < (↑6 : Int)) then
 bif inK IntKind.i64 ([n 0, n 1, n 2, n 3, n 4, n 5].getD i.toNat (0 : Int) * (l.getD i.toNat k0).vol) then
 bif inK IntKind.i64 (a + [n 0, n 1, n 2, n 3, n 4, n 5].getD i.toNat (0 : Int) * (l.getD i.toNat k0).vol) then
 bif inK IntKind.i64 (i + (1 : Int)) then
 X VEx.normal [I (i + (1 : Int)), I (↑l.length : Int), VV.tl l.length 5 (stG l), I (a + [n 0, n 1, n 2, n 3, n 4, n 5].getD i.toNat (0 : Int) * (l.getD i.toNat k0).vol), VV.tl l.length 5 (stG l), VV.func (87 : FuncId) [] [VV.tp [I (n 0), I (n 1), I (n 2), I (n 3), I (n 4), I (n 5)]]] []
 else False
 else False
 else False
 else False
 else False
 else X (VEx.exit 0) [I i, I (↑l.length : Int), VV.tl l.length 5 (stG l), I a, VV.tl l.length 5 (stG l), VV.func (87 : FuncId) [] [VV.tp [I (n 0), I (n 1), I (n 2), I (n 3), I (n 4), I (n 5)]]] []) := by kernel_rfl

def lSV (l : List Stk) (n : Nat → Int) : LT := fun lock t h K =>
  FitP lock h t ⟨0, ([] : List Nat).zip []⟩ (dsSV.zip (VSV l n 0 0)) ∧ (nB n ∧ lB l) ∧ K .normal (dsSV.zip (VSV l n l.length (sumF (tmV l n) l.length))) ⟨0, ([] : List Nat).zip []⟩
theorem SVf_ev (l : List Stk) (n : Nat → Int) (Q : VRes → Prop) : callN Try.prog noSpec (atF 64 [(0, lSV l n)]) 10 20 0 (.fn 64) [stD l, cloSV l n] ⟨0, []⟩ (fun r _ => Q r) =
  (FitP 0 (VH.mk 0 ([].zip [])) (dsSV.zip (VSV l n (0 : Int) (0 : Int))) (VH.mk 0 ([].zip [])) (dsSV.zip (VSV l n (0 : Int) (0 : Int))) ∧ (nB n ∧ lB l) ∧ Q (VRes.ret (I (sumF (tmV l n) l.length)))) := by kernel_rfl

end Go.Sx.Bln

/- blend: sum with closure 87. -/

namespace Go.Sx.Bln
open Go Go.Sx Go.Proofs
set_option maxRecDepth 1000000

section
variable {l : List Stk} {n : Nat → Int}

theorem bdSV (h : nB n ∧ lB l) {i : Nat} (hi : i < l.length) : 0 ≤ (tmV l n) i ∧ (tmV l n) i ≤ 6 * 65536 := by
  obtain ⟨hn, hl⟩ := h
  have h1 := hn i (by have := hl.1; omega)
  obtain ⟨h2, h3, h4, h5⟩ := hl.2 i hi

  exact mul_bd h1 (show 0 ≤ (l.getD i k0).vol ∧ (l.getD i k0).vol ≤ 65536 by omega)

theorem lSV_ok : LSound Try.prog true (.block 0 (.loop (loopB 0 (bodyOf Try.prog 64)))) 22 (lSV l n) := by
  by_cases hh : nB n ∧ lB l
  · have hh2 := hh
    obtain ⟨hn, hl⟩ := hh2
    have hl6 := hl.1
    refine loop_row hmix good0 (un := 10) (ds := dsSV) (ns := []) (nx := 0) (fun i : Nat => VSV l n i (sumF (tmV l n) i)) (fun _ => []) (fun i => i ≤ l.length) (fun i => l.length - i) (fun _ e vs bs => e = .exit 0 ∧ bs = [] ∧ vs = VSV l n l.length (sumF (tmV l n) l.length)) noL_ok ?_ ?_
    · rintro i h0
      refine cast (SV_ev l n i _ _).symm ?_
      by_cases hlt : i < l.length
      · have hb := sumF_bd (f := tmV l n) (M := 6 * 65536) i (fun j hj => bdSV hh (by omega))
        have hc := bdSV hh hlt
        have hi6 : ((i : Nat) : Int) * (6 * 65536) ≤ 6 * (6 * 65536) := Int.mul_le_mul_of_nonneg_right (by omega) (by decide)
        have h1 := hn i (by omega)
        obtain ⟨h2, h3, h4, h5⟩ := hl.2 i hlt
        have hs : sumF (tmV l n) (i + 1) = sumF (tmV l n) i + (tmV l n) i := rfl
        refine cond_dk (by omega) (cond_dk ⟨by omega, by omega⟩ ?_)
        rw [show (i : Int).toNat = i by omega, ch_get (by omega)]

        unfold tmV at hc
        refine cond_dk ⟨by omega, by omega⟩ (cond_r (by omega) ?_)
        refine cond_r (by omega) (cond_r (by omega) ⟨i + 1, by omega, by dsimp only; omega, ?_, fitBs_refl _, fun _ _ _ h => h⟩)
        dsimp only
        rw [hs]
        rfl
      · obtain rfl : i = l.length := by omega
        exact cond_d (fun h => by omega) (fun _ => ⟨rfl, rfl, rfl⟩)
    · rintro lock t h K ⟨hf, _, k1⟩
      refine ⟨0, hf, Nat.zero_le _, ?_⟩
      rintro e vs bs ⟨rfl, rfl, rfl⟩
      exact k1
  · rintro lock t h K ⟨hf, hc, _⟩
    exact (hh hc).elim

theorem sumSV_v (hh : nB n ∧ lB l) : ∃ h', CallsV Try.prog 64 [stD l, cloSV l n] ⟨0, []⟩ (.ret (I (sumF (tmV l n) l.length))) h' := by
  have hall : LoopsOk Try.prog 64 [(0, lSV l n)] := fun x hx => by
    simp only [List.mem_singleton] at hx
    subst hx
    exact ⟨by kernel_rfl, lSV_ok⟩
  obtain ⟨r, h', rfl, hc⟩ := of_callN (callL_good hmix noSp hall (un := 10) 20) (f := 64) (args := [stD l, cloSV l n]) (h := ⟨0, []⟩) (K := fun r _ => r = .ret (I (sumF (tmV l n) l.length))) (by
    refine cast (SVf_ev l n _).symm ?_
    exact ⟨fitP_self rfl, hh, rfl⟩)
  exact ⟨h', hc⟩
end
end Go.Sx.Bln

/- blend: sum with closure 77, evaluated. -/

namespace Go.Sx.Bln
open Go Go.Sx Go.Proofs
set_option maxRecDepth 1000000

def cloSC (l : List Stk) (n : Nat → Int) : VV := .func 77 [] [.tp (nL n)]
def dsSC : List Nat := [9, 8, 7, 4, 0, 1]
def VSC (l : List Stk) (n : Nat → Int) (i a : Int) : List VV := [I i, I l.length, stD l, I a, stD l, cloSC l n]
theorem SC_ev (l : List Stk) (n : Nat → Int) (i a : Int) (X : VEx → List VV → List VB → Prop) : codeE Try.prog (callN Try.prog noSpec noL 10 20) (fun _ => none) true 10 22 0 (loopB 0 (bodyOf Try.prog 64)) (dsSC.zip (VSC l n i a)) ⟨0, ([] : List Nat).zip []⟩ (obs 0 dsSC [] X) =
  (bif decide (i < (↑l.length : Int)) then
 bif decide ((0 : Int) ≤ i ∧ i < (↑l.length : Int)) then
 bif decide ((0 : Int) ≤ i ∧ i < (↑6 : Int)) then
 bif inK IntKind.i64 ([n 0, n 1, n 2, n 3, n 4, n 5].getD i.toNat (0 : Int) * (l.getD i.toNat k0).cost) then
 bif inK IntKind.i64 (a + [n 0, n 1, n 2, n 3, n 4, n 5].getD i.toNat (0 : Int) * (l.getD i.toNat k0).cost) then
 bif inK IntKind.i64 (i + (1 : Int)) then
 X VEx.normal [I (i + (1 : Int)), I (↑l.length : Int), VV.tl l.length 5 (stG l), I (a + [n 0, n 1, n 2, n 3, n 4, n 5].getD i.toNat (0 : Int) * (l.getD i.toNat k0).cost), VV.tl l.length 5 (stG l), VV.func (77 : FuncId) [] [VV.tp [I (n 0), I (n 1), I (n 2), I (n 3), I (n 4), I (n 5)]]] []
 else False
 else False
 else False
 else False
 else False
 else X (VEx.exit 0) [I i, I (↑l.length : Int), VV.tl l.length 5 (stG l), I a, VV.tl l.length 5 (stG l), VV.func (77 : FuncId) [] [VV.tp [I (n 0), I (n 1), I (n 2), I (n 3), I (n 4), I (n 5)]]] []) := by kernel_rfl

def lSC (l : List Stk) (n : Nat → Int) : LT := fun lock t h K =>
  FitP lock h t ⟨0, ([] : List Nat).zip []⟩ (dsSC.zip (VSC l n 0 0)) ∧ (nB n ∧ lB l) ∧ K .normal (dsSC.zip (VSC l n l.length (sumF (tmC l n) l.length))) ⟨0, ([] : List Nat).zip []⟩
theorem SCf_ev (l : List Stk) (n : Nat → Int) (Q : VRes → Prop) : callN Try.prog noSpec (atF 64 [(0, lSC l n)]) 10 20 0 (.fn 64) [stD l, cloSC l n] ⟨0, []⟩ (fun r _ => Q r) =
  (FitP 0 (VH.mk 0 ([].zip [])) (dsSC.zip (VSC l n (0 : Int) (0 : Int))) (VH.mk 0 ([].zip [])) (dsSC.zip (VSC l n (0 : Int) (0 : Int))) ∧ (nB n ∧ lB l) ∧ Q (VRes.ret (I (sumF (tmC l n) l.length)))) := by kernel_rfl

end Go.Sx.Bln

/- blend: sum with closure 77. -/

namespace Go.Sx.Bln
open Go Go.Sx Go.Proofs
set_option maxRecDepth 1000000

section
variable {l : List Stk} {n : Nat → Int}

theorem bdSC (h : nB n ∧ lB l) {i : Nat} (hi : i < l.length) : 0 ≤ (tmC l n) i ∧ (tmC l n) i ≤ 6 * 1048576 := by
  obtain ⟨hn, hl⟩ := h
  have h1 := hn i (by have := hl.1; omega)
  obtain ⟨h2, h3, h4, h5⟩ := hl.2 i hi

  exact mul_bd h1 (show 0 ≤ (l.getD i k0).cost ∧ (l.getD i k0).cost ≤ 1048576 by omega)

theorem lSC_ok : LSound Try.prog true (.block 0 (.loop (loopB 0 (bodyOf Try.prog 64)))) 22 (lSC l n) := by
  by_cases hh : nB n ∧ lB l
  · have hh2 := hh
    obtain ⟨hn, hl⟩ := hh2
    have hl6 := hl.1
    refine loop_row hmix good0 (un := 10) (ds := dsSC) (ns := []) (nx := 0) (fun i : Nat => VSC l n i (sumF (tmC l n) i)) (fun _ => []) (fun i => i ≤ l.length) (fun i => l.length - i) (fun _ e vs bs => e = .exit 0 ∧ bs = [] ∧ vs = VSC l n l.length (sumF (tmC l n) l.length)) noL_ok ?_ ?_
    · rintro i h0
      refine cast (SC_ev l n i _ _).symm ?_
      by_cases hlt : i < l.length
      · have hb := sumF_bd (f := tmC l n) (M := 6 * 1048576) i (fun j hj => bdSC hh (by omega))
        have hc := bdSC hh hlt
        have hi6 : ((i : Nat) : Int) * (6 * 1048576) ≤ 6 * (6 * 1048576) := Int.mul_le_mul_of_nonneg_right (by omega) (by decide)
        have h1 := hn i (by omega)
        obtain ⟨h2, h3, h4, h5⟩ := hl.2 i hlt
        have hs : sumF (tmC l n) (i + 1) = sumF (tmC l n) i + (tmC l n) i := rfl
        refine cond_dk (by omega) (cond_dk ⟨by omega, by omega⟩ ?_)
        rw [show (i : Int).toNat = i by omega, ch_get (by omega)]

        unfold tmC at hc
        refine cond_dk ⟨by omega, by omega⟩ (cond_r (by omega) ?_)
        refine cond_r (by omega) (cond_r (by omega) ⟨i + 1, by omega, by dsimp only; omega, ?_, fitBs_refl _, fun _ _ _ h => h⟩)
        dsimp only
        rw [hs]
        rfl
      · obtain rfl : i = l.length := by omega
        exact cond_d (fun h => by omega) (fun _ => ⟨rfl, rfl, rfl⟩)
    · rintro lock t h K ⟨hf, _, k1⟩
      refine ⟨0, hf, Nat.zero_le _, ?_⟩
      rintro e vs bs ⟨rfl, rfl, rfl⟩
      exact k1
  · rintro lock t h K ⟨hf, hc, _⟩
    exact (hh hc).elim

theorem sumSC_v (hh : nB n ∧ lB l) : ∃ h', CallsV Try.prog 64 [stD l, cloSC l n] ⟨0, []⟩ (.ret (I (sumF (tmC l n) l.length))) h' := by
  have hall : LoopsOk Try.prog 64 [(0, lSC l n)] := fun x hx => by
    simp only [List.mem_singleton] at hx
    subst hx
    exact ⟨by kernel_rfl, lSC_ok⟩
  obtain ⟨r, h', rfl, hc⟩ := of_callN (callL_good hmix noSp hall (un := 10) 20) (f := 64) (args := [stD l, cloSC l n]) (h := ⟨0, []⟩) (K := fun r _ => r = .ret (I (sumF (tmC l n) l.length))) (by
    refine cast (SCf_ev l n _).symm ?_
    exact ⟨fitP_self rfl, hh, rfl⟩)
  exact ⟨h', hc⟩
end
end Go.Sx.Bln

/- blend: sum with closure 88, evaluated. -/

namespace Go.Sx.Bln
open Go Go.Sx Go.Proofs
set_option maxRecDepth 1000000

def cloSL (l : List Stk) (n : Nat → Int) (k : Nat) : VV := .func 88 [] [.tp (nL n), .tp [I k]]
def dsSL : List Nat := [9, 8, 7, 4, 0, 1]
def VSL (l : List Stk) (n : Nat → Int) (k : Nat) (i a : Int) : List VV := [I i, I l.length, stD l, I a, stD l, cloSL l n k]
theorem SL_ev (l : List Stk) (n : Nat → Int) (k : Nat) (i a : Int) (X : VEx → List VV → List VB → Prop) : codeE Try.prog (callN Try.prog noSpec noL 10 20) (fun _ => none) true 10 22 0 (loopB 0 (bodyOf Try.prog 64)) (dsSL.zip (VSL l n k i a)) ⟨0, ([] : List Nat).zip []⟩ (obs 0 dsSL [] X) =
  (bif decide (i < (↑l.length : Int)) then
 bif decide ((0 : Int) ≤ i ∧ i < (↑l.length : Int)) then
 bif decide ((0 : Int) ≤ i ∧ i < (↑6 : Int)) then
 bif inK IntKind.i64 ([n 0, n 1, n 2, n 3, n 4, n 5].getD i.toNat (0 : Int) * (l.getD i.toNat k0).vol) then
 bif decide ((0 : Int) ≤ (↑k : Int) ∧ (↑k : Int) < (↑(l.getD i.toNat k0).prof.length : Int)) then
 bif inK IntKind.i64 ([n 0, n 1, n 2, n 3, n 4, n 5].getD i.toNat (0 : Int) * (l.getD i.toNat k0).vol * ((l.getD i.toNat k0).prof.getD (↑k : Int).toNat s0).lo) then
 bif inK IntKind.i64 (a + [n 0, n 1, n 2, n 3, n 4, n 5].getD i.toNat (0 : Int) * (l.getD i.toNat k0).vol * ((l.getD i.toNat k0).prof.getD (↑k : Int).toNat s0).lo) then
 bif inK IntKind.i64 (i + (1 : Int)) then
 X VEx.normal [I (i + (1 : Int)), I (↑l.length : Int), VV.tl l.length 5 (stG l), I (a + [n 0, n 1, n 2, n 3, n 4, n 5].getD i.toNat (0 : Int) * (l.getD i.toNat k0).vol * ((l.getD i.toNat k0).prof.getD (↑k : Int).toNat s0).lo), VV.tl l.length 5 (stG l), VV.func (88 : FuncId) [] [VV.tp [I (n 0), I (n 1), I (n 2), I (n 3), I (n 4), I (n 5)], VV.tp [I (↑k : Int)]]] []
 else False
 else False
 else False
 else False
 else False
 else False
 else False
 else X (VEx.exit 0) [I i, I (↑l.length : Int), VV.tl l.length 5 (stG l), I a, VV.tl l.length 5 (stG l), VV.func (88 : FuncId) [] [VV.tp [I (n 0), I (n 1), I (n 2), I (n 3), I (n 4), I (n 5)], VV.tp [I (↑k : Int)]]] []) := by kernel_rfl

def lSL (l : List Stk) (n : Nat → Int) (k : Nat) : LT := fun lock t h K =>
  FitP lock h t ⟨0, ([] : List Nat).zip []⟩ (dsSL.zip (VSL l n k 0 0)) ∧ (nB n ∧ lB l ∧ ∃ m, pB l m ∧ k < m) ∧ K .normal (dsSL.zip (VSL l n k l.length (sumF (tmL l n k) l.length))) ⟨0, ([] : List Nat).zip []⟩
theorem SLf_ev (l : List Stk) (n : Nat → Int) (k : Nat) (Q : VRes → Prop) : callN Try.prog noSpec (atF 64 [(0, lSL l n k)]) 10 20 0 (.fn 64) [stD l, cloSL l n k] ⟨0, []⟩ (fun r _ => Q r) =
  (FitP 0 (VH.mk 0 ([].zip [])) (dsSL.zip (VSL l n k (0 : Int) (0 : Int))) (VH.mk 0 ([].zip [])) (dsSL.zip (VSL l n k (0 : Int) (0 : Int))) ∧ (nB n ∧ lB l ∧ ∃ m, pB l m ∧ k < m) ∧ Q (VRes.ret (I (sumF (tmL l n k) l.length)))) := by kernel_rfl

end Go.Sx.Bln

/- blend: sum with closure 88. -/

namespace Go.Sx.Bln
open Go Go.Sx Go.Proofs
set_option maxRecDepth 1000000

section
variable {l : List Stk} {n : Nat → Int} {k : Nat}

theorem bdSL (h : nB n ∧ lB l ∧ ∃ m, pB l m ∧ k < m) {i : Nat} (hi : i < l.length) : 0 ≤ (tmL l n k) i ∧ (tmL l n k) i ≤ 6 * 65536 * 1000 := by
  obtain ⟨hn, hl, m, hp, hk⟩ := h
  have h1 := hn i (by have := hl.1; omega)
  obtain ⟨h2, h3, h4, h5⟩ := hl.2 i hi
  obtain ⟨p1, p2⟩ := hp i hi
  obtain ⟨p3, p4, p5⟩ := p2 k hk
  exact mul_bd (mul_bd h1 (show 0 ≤ (l.getD i k0).vol ∧ (l.getD i k0).vol ≤ 65536 by omega)) (show 0 ≤ ((l.getD i k0).prof.getD k s0).lo ∧ ((l.getD i k0).prof.getD k s0).lo ≤ 1000 by omega)

theorem lSL_ok : LSound Try.prog true (.block 0 (.loop (loopB 0 (bodyOf Try.prog 64)))) 22 (lSL l n k) := by
  by_cases hh : nB n ∧ lB l ∧ ∃ m, pB l m ∧ k < m
  · have hh2 := hh
    obtain ⟨hn, hl, m, hp, hkm⟩ := hh2
    have hl6 := hl.1
    refine loop_row hmix good0 (un := 10) (ds := dsSL) (ns := []) (nx := 0) (fun i : Nat => VSL l n k i (sumF (tmL l n k) i)) (fun _ => []) (fun i => i ≤ l.length) (fun i => l.length - i) (fun _ e vs bs => e = .exit 0 ∧ bs = [] ∧ vs = VSL l n k l.length (sumF (tmL l n k) l.length)) noL_ok ?_ ?_
    · rintro i h0
      refine cast (SL_ev l n k i _ _).symm ?_
      by_cases hlt : i < l.length
      · have hb := sumF_bd (f := tmL l n k) (M := 6 * 65536 * 1000) i (fun j hj => bdSL hh (by omega))
        have hc := bdSL hh hlt
        have hi6 : ((i : Nat) : Int) * (6 * 65536 * 1000) ≤ 6 * (6 * 65536 * 1000) := Int.mul_le_mul_of_nonneg_right (by omega) (by decide)
        have h1 := hn i (by omega)
        obtain ⟨h2, h3, h4, h5⟩ := hl.2 i hlt
        have hs : sumF (tmL l n k) (i + 1) = sumF (tmL l n k) i + (tmL l n k) i := rfl
        refine cond_dk (by omega) (cond_dk ⟨by omega, by omega⟩ ?_)
        rw [show (i : Int).toNat = i by omega, ch_get (by omega), show ((k : Nat) : Int).toNat = k by omega]
        obtain ⟨p1, p2⟩ := hp i hlt
        obtain ⟨p3, p4, p5⟩ := p2 k hkm
        have hm1 := mul_bd h1 (show 0 ≤ (l.getD i k0).vol ∧ (l.getD i k0).vol ≤ 65536 by omega)
        unfold tmL at hc
        refine cond_dk ⟨by omega, by omega⟩ (cond_r (by omega) (cond_dk ⟨by omega, by omega⟩ (cond_r (by omega) ?_)))
        refine cond_r (by omega) (cond_r (by omega) ⟨i + 1, by omega, by dsimp only; omega, ?_, fitBs_refl _, fun _ _ _ h => h⟩)
        dsimp only
        rw [hs]
        rfl
      · obtain rfl : i = l.length := by omega
        exact cond_d (fun h => by omega) (fun _ => ⟨rfl, rfl, rfl⟩)
    · rintro lock t h K ⟨hf, _, k1⟩
      refine ⟨0, hf, Nat.zero_le _, ?_⟩
      rintro e vs bs ⟨rfl, rfl, rfl⟩
      exact k1
  · rintro lock t h K ⟨hf, hc, _⟩
    exact (hh hc).elim

theorem sumSL_v (hh : nB n ∧ lB l ∧ ∃ m, pB l m ∧ k < m) : ∃ h', CallsV Try.prog 64 [stD l, cloSL l n k] ⟨0, []⟩ (.ret (I (sumF (tmL l n k) l.length))) h' := by
  have hall : LoopsOk Try.prog 64 [(0, lSL l n k)] := fun x hx => by
    simp only [List.mem_singleton] at hx
    subst hx
    exact ⟨by kernel_rfl, lSL_ok⟩
  obtain ⟨r, h', rfl, hc⟩ := of_callN (callL_good hmix noSp hall (un := 10) 20) (f := 64) (args := [stD l, cloSL l n k]) (h := ⟨0, []⟩) (K := fun r _ => r = .ret (I (sumF (tmL l n k) l.length))) (by
    refine cast (SLf_ev l n k _).symm ?_
    exact ⟨fitP_self rfl, hh, rfl⟩)
  exact ⟨h', hc⟩
end
end Go.Sx.Bln

/- blend: sum with closure 89, evaluated. -/

namespace Go.Sx.Bln
open Go Go.Sx Go.Proofs
set_option maxRecDepth 1000000

def cloSH (l : List Stk) (n : Nat → Int) (k : Nat) : VV := .func 89 [] [.tp (nL n), .tp [I k]]
def dsSH : List Nat := [9, 8, 7, 4, 0, 1]
def VSH (l : List Stk) (n : Nat → Int) (k : Nat) (i a : Int) : List VV := [I i, I l.length, stD l, I a, stD l, cloSH l n k]
theorem SH_ev (l : List Stk) (n : Nat → Int) (k : Nat) (i a : Int) (X : VEx → List VV → List VB → Prop) : codeE Try.prog (callN Try.prog noSpec noL 10 20) (fun _ => none) true 10 22 0 (loopB 0 (bodyOf Try.prog 64)) (dsSH.zip (VSH l n k i a)) ⟨0, ([] : List Nat).zip []⟩ (obs 0 dsSH [] X) =
  (bif decide (i < (↑l.length : Int)) then
 bif decide ((0 : Int) ≤ i ∧ i < (↑l.length : Int)) then
 bif decide ((0 : Int) ≤ i ∧ i < (↑6 : Int)) then
 bif inK IntKind.i64 ([n 0, n 1, n 2, n 3, n 4, n 5].getD i.toNat (0 : Int) * (l.getD i.toNat k0).vol) then
 bif decide ((0 : Int) ≤ (↑k : Int) ∧ (↑k : Int) < (↑(l.getD i.toNat k0).prof.length : Int)) then
 bif inK IntKind.i64 ([n 0, n 1, n 2, n 3, n 4, n 5].getD i.toNat (0 : Int) * (l.getD i.toNat k0).vol * ((l.getD i.toNat k0).prof.getD (↑k : Int).toNat s0).hi) then
 bif inK IntKind.i64 (a + [n 0, n 1, n 2, n 3, n 4, n 5].getD i.toNat (0 : Int) * (l.getD i.toNat k0).vol * ((l.getD i.toNat k0).prof.getD (↑k : Int).toNat s0).hi) then
 bif inK IntKind.i64 (i + (1 : Int)) then
 X VEx.normal [I (i + (1 : Int)), I (↑l.length : Int), VV.tl l.length 5 (stG l), I (a + [n 0, n 1, n 2, n 3, n 4, n 5].getD i.toNat (0 : Int) * (l.getD i.toNat k0).vol * ((l.getD i.toNat k0).prof.getD (↑k : Int).toNat s0).hi), VV.tl l.length 5 (stG l), VV.func (89 : FuncId) [] [VV.tp [I (n 0), I (n 1), I (n 2), I (n 3), I (n 4), I (n 5)], VV.tp [I (↑k : Int)]]] []
 else False
 else False
 else False
 else False
 else False
 else False
 else False
 else X (VEx.exit 0) [I i, I (↑l.length : Int), VV.tl l.length 5 (stG l), I a, VV.tl l.length 5 (stG l), VV.func (89 : FuncId) [] [VV.tp [I (n 0), I (n 1), I (n 2), I (n 3), I (n 4), I (n 5)], VV.tp [I (↑k : Int)]]] []) := by kernel_rfl

def lSH (l : List Stk) (n : Nat → Int) (k : Nat) : LT := fun lock t h K =>
  FitP lock h t ⟨0, ([] : List Nat).zip []⟩ (dsSH.zip (VSH l n k 0 0)) ∧ (nB n ∧ lB l ∧ ∃ m, pB l m ∧ k < m) ∧ K .normal (dsSH.zip (VSH l n k l.length (sumF (tmH l n k) l.length))) ⟨0, ([] : List Nat).zip []⟩
theorem SHf_ev (l : List Stk) (n : Nat → Int) (k : Nat) (Q : VRes → Prop) : callN Try.prog noSpec (atF 64 [(0, lSH l n k)]) 10 20 0 (.fn 64) [stD l, cloSH l n k] ⟨0, []⟩ (fun r _ => Q r) =
  (FitP 0 (VH.mk 0 ([].zip [])) (dsSH.zip (VSH l n k (0 : Int) (0 : Int))) (VH.mk 0 ([].zip [])) (dsSH.zip (VSH l n k (0 : Int) (0 : Int))) ∧ (nB n ∧ lB l ∧ ∃ m, pB l m ∧ k < m) ∧ Q (VRes.ret (I (sumF (tmH l n k) l.length)))) := by kernel_rfl

end Go.Sx.Bln

/- blend: sum with closure 89. -/

namespace Go.Sx.Bln
open Go Go.Sx Go.Proofs
set_option maxRecDepth 1000000

section
variable {l : List Stk} {n : Nat → Int} {k : Nat}

theorem bdSH (h : nB n ∧ lB l ∧ ∃ m, pB l m ∧ k < m) {i : Nat} (hi : i < l.length) : 0 ≤ (tmH l n k) i ∧ (tmH l n k) i ≤ 6 * 65536 * 1000 := by
  obtain ⟨hn, hl, m, hp, hk⟩ := h
  have h1 := hn i (by have := hl.1; omega)
  obtain ⟨h2, h3, h4, h5⟩ := hl.2 i hi
  obtain ⟨p1, p2⟩ := hp i hi
  obtain ⟨p3, p4, p5⟩ := p2 k hk
  exact mul_bd (mul_bd h1 (show 0 ≤ (l.getD i k0).vol ∧ (l.getD i k0).vol ≤ 65536 by omega)) (show 0 ≤ ((l.getD i k0).prof.getD k s0).hi ∧ ((l.getD i k0).prof.getD k s0).hi ≤ 1000 by omega)

theorem lSH_ok : LSound Try.prog true (.block 0 (.loop (loopB 0 (bodyOf Try.prog 64)))) 22 (lSH l n k) := by
  by_cases hh : nB n ∧ lB l ∧ ∃ m, pB l m ∧ k < m
  · have hh2 := hh
    obtain ⟨hn, hl, m, hp, hkm⟩ := hh2
    have hl6 := hl.1
    refine loop_row hmix good0 (un := 10) (ds := dsSH) (ns := []) (nx := 0) (fun i : Nat => VSH l n k i (sumF (tmH l n k) i)) (fun _ => []) (fun i => i ≤ l.length) (fun i => l.length - i) (fun _ e vs bs => e = .exit 0 ∧ bs = [] ∧ vs = VSH l n k l.length (sumF (tmH l n k) l.length)) noL_ok ?_ ?_
    · rintro i h0
      refine cast (SH_ev l n k i _ _).symm ?_
      by_cases hlt : i < l.length
      · have hb := sumF_bd (f := tmH l n k) (M := 6 * 65536 * 1000) i (fun j hj => bdSH hh (by omega))
        have hc := bdSH hh hlt
        have hi6 : ((i : Nat) : Int) * (6 * 65536 * 1000) ≤ 6 * (6 * 65536 * 1000) := Int.mul_le_mul_of_nonneg_right (by omega) (by decide)
        have h1 := hn i (by omega)
        obtain ⟨h2, h3, h4, h5⟩ := hl.2 i hlt
        have hs : sumF (tmH l n k) (i + 1) = sumF (tmH l n k) i + (tmH l n k) i := rfl
        refine cond_dk (by omega) (cond_dk ⟨by omega, by omega⟩ ?_)
        rw [show (i : Int).toNat = i by omega, ch_get (by omega), show ((k : Nat) : Int).toNat = k by omega]
        obtain ⟨p1, p2⟩ := hp i hlt
        obtain ⟨p3, p4, p5⟩ := p2 k hkm
        have hm1 := mul_bd h1 (show 0 ≤ (l.getD i k0).vol ∧ (l.getD i k0).vol ≤ 65536 by omega)
        unfold tmH at hc
        refine cond_dk ⟨by omega, by omega⟩ (cond_r (by omega) (cond_dk ⟨by omega, by omega⟩ (cond_r (by omega) ?_)))
        refine cond_r (by omega) (cond_r (by omega) ⟨i + 1, by omega, by dsimp only; omega, ?_, fitBs_refl _, fun _ _ _ h => h⟩)
        dsimp only
        rw [hs]
        rfl
      · obtain rfl : i = l.length := by omega
        exact cond_d (fun h => by omega) (fun _ => ⟨rfl, rfl, rfl⟩)
    · rintro lock t h K ⟨hf, _, k1⟩
      refine ⟨0, hf, Nat.zero_le _, ?_⟩
      rintro e vs bs ⟨rfl, rfl, rfl⟩
      exact k1
  · rintro lock t h K ⟨hf, hc, _⟩
    exact (hh hc).elim

theorem sumSH_v (hh : nB n ∧ lB l ∧ ∃ m, pB l m ∧ k < m) : ∃ h', CallsV Try.prog 64 [stD l, cloSH l n k] ⟨0, []⟩ (.ret (I (sumF (tmH l n k) l.length))) h' := by
  have hall : LoopsOk Try.prog 64 [(0, lSH l n k)] := fun x hx => by
    simp only [List.mem_singleton] at hx
    subst hx
    exact ⟨by kernel_rfl, lSH_ok⟩
  obtain ⟨r, h', rfl, hc⟩ := of_callN (callL_good hmix noSp hall (un := 10) 20) (f := 64) (args := [stD l, cloSH l n k]) (h := ⟨0, []⟩) (K := fun r _ => r = .ret (I (sumF (tmH l n k) l.length))) (by
    refine cast (SHf_ev l n k _).symm ?_
    exact ⟨fitP_self rfl, hh, rfl⟩)
  exact ⟨h', hc⟩
end
end Go.Sx.Bln

/- blend: volume, cost, notes, evaluated. -/

namespace Go.Sx.Bln
open Go Go.Sx Go.Proofs
set_option maxRecDepth 1000000

/-- Sums over stocks, as a row. -/
def smT : FuncId × Spec1 := (64, fun _ args h K => match args with
  | [x, .func 87 [] [c]] => ∃ (l : List Stk) (n : Nat → Int), isD h 3 x (stD l) ∧ isD h 2 c (.tp (nL n)) ∧ (nB n ∧ lB l) ∧ K (.ret (I (sumF (tmV l n) l.length))) h
  | [x, .func 77 [] [c]] => ∃ (l : List Stk) (n : Nat → Int), isD h 3 x (stD l) ∧ isD h 2 c (.tp (nL n)) ∧ (nB n ∧ lB l) ∧ K (.ret (I (sumF (tmC l n) l.length))) h
  | [x, .func 88 [] [c, d]] => ∃ (l : List Stk) (n : Nat → Int) (k : Nat), isD h 3 x (stD l) ∧ isD h 2 c (.tp (nL n)) ∧ isD h 2 d (.tp [I k]) ∧ (nB n ∧ lB l ∧ ∃ m, pB l m ∧ k < m) ∧ K (.ret (I (sumF (tmL l n k) l.length))) h
  | [x, .func 89 [] [c, d]] => ∃ (l : List Stk) (n : Nat → Int) (k : Nat), isD h 3 x (stD l) ∧ isD h 2 c (.tp (nL n)) ∧ isD h 2 d (.tp [I k]) ∧ (nB n ∧ lB l ∧ ∃ m, pB l m ∧ k < m) ∧ K (.ret (I (sumF (tmH l n k) l.length))) h
  | _ => False)
theorem vo_ev (l : List Stk) (t : Tst) (n : Nat → Int) (Q : VRes → Prop) : callN Try.prog (tabS [smT]) noL 10 20 0 (.fn 75) [.tp (stD l :: tsL t), .agg (nL n)] ⟨0, []⟩ (fun r h => Q r) =
  (∃ (l_1 : List Stk) (n_1 : Nat → Int), isD (VH.mk (0 + 1) [(0, VB.fam [] (6) (fun k => [n 0, n 1, n 2, n 3, n 4, n 5].getD k (0 : Int)) 80)]) 3 (VV.tl l.length 5 (stG l)) (stD l_1) ∧ isD (VH.mk (0 + 1) [(0, VB.fam [] (6) (fun k => [n 0, n 1, n 2, n 3, n 4, n 5].getD k (0 : Int)) 80)]) 2 (VV.ptr (VA.own 0 0)) (VV.tp (nL n_1)) ∧ (nB n_1 ∧ lB l_1) ∧ Q (VRes.ret (I (sumF (tmV l_1 n_1) l_1.length)))) := by kernel_rfl

theorem co_ev (l : List Stk) (t : Tst) (n : Nat → Int) (Q : VRes → Prop) : callN Try.prog (tabS [smT]) noL 10 20 0 (.fn 49) [.tp (stD l :: tsL t), .agg (nL n)] ⟨0, []⟩ (fun r h => Q r) =
  (∃ (l_1 : List Stk) (n_1 : Nat → Int), isD (VH.mk (0 + 1) [(0, VB.fam [] (6) (fun k => [n 0, n 1, n 2, n 3, n 4, n 5].getD k (0 : Int)) 80)]) 3 (VV.tl l.length 5 (stG l)) (stD l_1) ∧ isD (VH.mk (0 + 1) [(0, VB.fam [] (6) (fun k => [n 0, n 1, n 2, n 3, n 4, n 5].getD k (0 : Int)) 80)]) 2 (VV.ptr (VA.own 0 0)) (VV.tp (nL n_1)) ∧ (nB n_1 ∧ lB l_1) ∧ Q (VRes.ret (I (sumF (tmC l_1 n_1) l_1.length)))) := by kernel_rfl

theorem no_ev (l : List Stk) (t : Tst) (n : Nat → Int) (k : Nat) (Q : VRes → Prop) : callN Try.prog (tabS [smT]) noL 10 20 0 (.fn 80) [.tp (stD l :: tsL t), .agg (nL n), I k] ⟨0, []⟩ (fun r h => Q r) =
  (∃ (l_1 : List Stk) (n_1 : Nat → Int) (k_1 : Nat), isD (VH.mk (3) [(2, VB.cells [I 0, I 0] 34), (1, VB.cells [I (↑k : Int)] 3), (0, VB.fam [] (6) (fun k => [n 0, n 1, n 2, n 3, n 4, n 5].getD k (0 : Int)) 80)]) 3 (VV.tl l.length 5 (stG l)) (stD l_1) ∧ isD (VH.mk (3) [(2, VB.cells [I 0, I 0] 34), (1, VB.cells [I (↑k : Int)] 3), (0, VB.fam [] (6) (fun k => [n 0, n 1, n 2, n 3, n 4, n 5].getD k (0 : Int)) 80)]) 2 (VV.ptr (VA.own 0 0)) (VV.tp (nL n_1)) ∧ isD (VH.mk (3) [(2, VB.cells [I 0, I 0] 34), (1, VB.cells [I (↑k : Int)] 3), (0, VB.fam [] (6) (fun k => [n 0, n 1, n 2, n 3, n 4, n 5].getD k (0 : Int)) 80)]) 2 (VV.ptr (VA.own (1) 0)) (VV.tp [I (↑k_1 : Int)]) ∧ (nB n_1 ∧ lB l_1 ∧ ∃ m, pB l_1 m ∧ k_1 < m) ∧ ∃ (l_2 : List Stk) (n_2 : Nat → Int) (k_2 : Nat), isD (VH.mk (3) [(2, VB.cells [I 0, I 0] 34), (1, VB.cells [I (↑k : Int)] 3), (0, VB.fam [] (6) (fun k => [n 0, n 1, n 2, n 3, n 4, n 5].getD k (0 : Int)) 80)]) 3 (VV.tl l.length 5 (stG l)) (stD l_2) ∧ isD (VH.mk (3) [(2, VB.cells [I 0, I 0] 34), (1, VB.cells [I (↑k : Int)] 3), (0, VB.fam [] (6) (fun k => [n 0, n 1, n 2, n 3, n 4, n 5].getD k (0 : Int)) 80)]) 2 (VV.ptr (VA.own 0 0)) (VV.tp (nL n_2)) ∧ isD (VH.mk (3) [(2, VB.cells [I 0, I 0] 34), (1, VB.cells [I (↑k : Int)] 3), (0, VB.fam [] (6) (fun k => [n 0, n 1, n 2, n 3, n 4, n 5].getD k (0 : Int)) 80)]) 2 (VV.ptr (VA.own (1) 0)) (VV.tp [I (↑k_2 : Int)]) ∧ (nB n_2 ∧ lB l_2 ∧ ∃ m, pB l_2 m ∧ k_2 < m) ∧ Q (VRes.ret (VV.agg [I (sumF (tmL l_1 n_1 k_1) l_1.length), I (sumF (tmH l_2 n_2 k_2) l_2.length)]))) := by kernel_rfl

def faN (n : Nat → Int) : VB := .fam [] 6 (fun k => (ch n).getD k 0) 80
def dsA : List Nat := [15, 14, 13, 12, 11, 10, 7, 6, 4, 0, 1, 2]
def VA (l : List Stk) (t : Tst) (n : Nat → Int) (y i a : Int) : List VV := [I i, I l.length, stD l, .tp (stD l :: tsL t), .tp (stD l :: tsL t), .tp (stD l :: tsL t), I a, I 0, .ptr (.own 0 0), .tp (stD l :: tsL t), .agg (nL n), I y]
theorem ag_ev (l : List Stk) (t : Tst) (n : Nat → Int) (y i a : Int) (X : VEx → List VV → List VB → Prop) : codeE Try.prog (callN Try.prog noSpec noL 10 20) (fun _ => none) true 10 42 0 (loopB 0 (bodyOf Try.prog 79)) (dsA.zip (VA l t n y i a)) ⟨1, [0].zip [faN n]⟩ (obs 1 dsA [0] X) =
  (bif decide (i < (↑l.length : Int)) then
 bif decide ((0 : Int) ≤ i ∧ i < (↑l.length : Int)) then
 bif decide ((0 : Int) ≤ i ∧ i < (↑6 : Int)) then
 bif decide (i.toNat * (1) < 6) then
 bif decide ((fun k => (ch n).getD k (0 : Int)) (i.toNat * (1)) > (0 : Int)) then
 bif decide (a < (0 : Int)) then
 bif inK IntKind.i64 ((l.getD i.toNat k0).age + y) then
 bif inK IntKind.i64 (i + (1 : Int)) then
 X VEx.normal [I (i + (1 : Int)), I (↑l.length : Int), VV.tl l.length 5 (stG l), VV.tp [VV.tl l.length 5 (stG l), VV.tl t.T.length 1 (dG t.T), I t.far, I t.least], VV.tp [VV.tl l.length 5 (stG l), VV.tl t.T.length 1 (dG t.T), I t.far, I t.least], VV.tp [VV.tl l.length 5 (stG l), VV.tl t.T.length 1 (dG t.T), I t.far, I t.least], I ((l.getD i.toNat k0).age + y), I 0, VV.ptr (VA.own 0 0), VV.tp [VV.tl l.length 5 (stG l), VV.tl t.T.length 1 (dG t.T), I t.far, I t.least], VV.agg [I (n 0), I (n 1), I (n 2), I (n 3), I (n 4), I (n 5)], I y] [VB.fam [] 6 (fun k => (ch n).getD k (0 : Int)) (80 : TypeId)]
 else False
 else False
 else bif inK IntKind.i64 ((l.getD i.toNat k0).age + y) then
 bif decide ((l.getD i.toNat k0).age + y < a) then
 bif inK IntKind.i64 ((l.getD i.toNat k0).age + y) then
 bif inK IntKind.i64 (i + (1 : Int)) then
 X VEx.normal [I (i + (1 : Int)), I (↑l.length : Int), VV.tl l.length 5 (stG l), VV.tp [VV.tl l.length 5 (stG l), VV.tl t.T.length 1 (dG t.T), I t.far, I t.least], VV.tp [VV.tl l.length 5 (stG l), VV.tl t.T.length 1 (dG t.T), I t.far, I t.least], VV.tp [VV.tl l.length 5 (stG l), VV.tl t.T.length 1 (dG t.T), I t.far, I t.least], I ((l.getD i.toNat k0).age + y), I 0, VV.ptr (VA.own 0 0), VV.tp [VV.tl l.length 5 (stG l), VV.tl t.T.length 1 (dG t.T), I t.far, I t.least], VV.agg [I (n 0), I (n 1), I (n 2), I (n 3), I (n 4), I (n 5)], I y] [VB.fam [] 6 (fun k => (ch n).getD k (0 : Int)) (80 : TypeId)]
 else False
 else False
 else bif inK IntKind.i64 (i + (1 : Int)) then
 X VEx.normal [I (i + (1 : Int)), I (↑l.length : Int), VV.tl l.length 5 (stG l), VV.tp [VV.tl l.length 5 (stG l), VV.tl t.T.length 1 (dG t.T), I t.far, I t.least], VV.tp [VV.tl l.length 5 (stG l), VV.tl t.T.length 1 (dG t.T), I t.far, I t.least], VV.tp [VV.tl l.length 5 (stG l), VV.tl t.T.length 1 (dG t.T), I t.far, I t.least], I a, I 0, VV.ptr (VA.own 0 0), VV.tp [VV.tl l.length 5 (stG l), VV.tl t.T.length 1 (dG t.T), I t.far, I t.least], VV.agg [I (n 0), I (n 1), I (n 2), I (n 3), I (n 4), I (n 5)], I y] [VB.fam [] 6 (fun k => (ch n).getD k (0 : Int)) (80 : TypeId)]
 else False
 else False
 else bif inK IntKind.i64 (i + (1 : Int)) then
 X VEx.normal [I (i + (1 : Int)), I (↑l.length : Int), VV.tl l.length 5 (stG l), VV.tp [VV.tl l.length 5 (stG l), VV.tl t.T.length 1 (dG t.T), I t.far, I t.least], VV.tp [VV.tl l.length 5 (stG l), VV.tl t.T.length 1 (dG t.T), I t.far, I t.least], VV.tp [VV.tl l.length 5 (stG l), VV.tl t.T.length 1 (dG t.T), I t.far, I t.least], I a, I 0, VV.ptr (VA.own 0 0), VV.tp [VV.tl l.length 5 (stG l), VV.tl t.T.length 1 (dG t.T), I t.far, I t.least], VV.agg [I (n 0), I (n 1), I (n 2), I (n 3), I (n 4), I (n 5)], I y] [VB.fam [] 6 (fun k => (ch n).getD k (0 : Int)) (80 : TypeId)]
 else False
 else False
 else False
 else False
 else X (VEx.exit 0) [I i, I (↑l.length : Int), VV.tl l.length 5 (stG l), VV.tp [VV.tl l.length 5 (stG l), VV.tl t.T.length 1 (dG t.T), I t.far, I t.least], VV.tp [VV.tl l.length 5 (stG l), VV.tl t.T.length 1 (dG t.T), I t.far, I t.least], VV.tp [VV.tl l.length 5 (stG l), VV.tl t.T.length 1 (dG t.T), I t.far, I t.least], I a, I 0, VV.ptr (VA.own 0 0), VV.tp [VV.tl l.length 5 (stG l), VV.tl t.T.length 1 (dG t.T), I t.far, I t.least], VV.agg [I (n 0), I (n 1), I (n 2), I (n 3), I (n 4), I (n 5)], I y] [VB.fam [] 6 (fun k => (ch n).getD k (0 : Int)) (80 : TypeId)]) := by kernel_rfl

def ageF (l : List Stk) (n : Nat → Int) (y : Int) : Nat → Int
  | 0 => -1
  | k + 1 => if n k > 0 ∧ (ageF l n y k < 0 ∨ (l.getD k k0).age + y < ageF l n y k) then (l.getD k k0).age + y else ageF l n y k
def lAg (l : List Stk) (t : Tst) (n : Nat → Int) (y : Int) : LT := fun lock tt h K =>
  FitP lock h tt ⟨1, [0].zip [faN n]⟩ (dsA.zip (VA l t n y 0 (-1))) ∧ (nB n ∧ lB l ∧ 0 ≤ y ∧ y ≤ 1000) ∧ K .normal (dsA.zip (VA l t n y l.length (ageF l n y l.length))) ⟨1, [0].zip [faN n]⟩
theorem agf_ev (l : List Stk) (t : Tst) (n : Nat → Int) (y : Int) (Q : VRes → Prop) : callN Try.prog noSpec (atF 79 [(0, lAg l t n y)]) 10 20 0 (.fn 79) [.tp (stD l :: tsL t), .agg (nL n), I y] ⟨0, []⟩ (fun r h => Q r) =
  (FitP 0 (VH.mk 1 ([0].zip [faN n])) (dsA.zip (VA l t n y (0 : Int) (-1 : Int))) (VH.mk 1 ([0].zip [faN n])) (dsA.zip (VA l t n y (0 : Int) (-1 : Int))) ∧ (nB n ∧ lB l ∧ (0 : Int) ≤ y ∧ y ≤ (1000 : Int)) ∧ Q (VRes.ret (I (ageF l n y l.length)))) := by kernel_rfl

end Go.Sx.Bln

/- blend: volume, cost, notes, age. -/

namespace Go.Sx.Bln
open Go Go.Sx Go.Proofs
set_option maxRecDepth 1000000

theorem smT_ok : SpOk Try.prog smT.1 smT.2 := by
  intro lock args h K hK
  simp only [smT] at hK
  split at hK
  · obtain ⟨l, n, hx, hc, hh, hK⟩ := hK
    obtain ⟨h', hv⟩ := sumSV_v hh
    exact ⟨_, h, hK, lockP_refl _ _, calls_lendDP 3 hv rfl ⟨hx, ⟨rfl, trivial, hc, trivial⟩, trivial⟩⟩
  · obtain ⟨l, n, hx, hc, hh, hK⟩ := hK
    obtain ⟨h', hv⟩ := sumSC_v hh
    exact ⟨_, h, hK, lockP_refl _ _, calls_lendDP 3 hv rfl ⟨hx, ⟨rfl, trivial, hc, trivial⟩, trivial⟩⟩
  · obtain ⟨l, n, k, hx, hc, hd, hh, hK⟩ := hK
    obtain ⟨h', hv⟩ := sumSL_v hh
    exact ⟨_, h, hK, lockP_refl _ _, calls_lendDP 3 hv rfl ⟨hx, ⟨rfl, trivial, hc, hd, trivial⟩, trivial⟩⟩
  · obtain ⟨l, n, k, hx, hc, hd, hh, hK⟩ := hK
    obtain ⟨h', hv⟩ := sumSH_v hh
    exact ⟨_, h, hK, lockP_refl _ _, calls_lendDP 3 hv rfl ⟨hx, ⟨rfl, trivial, hc, hd, trivial⟩, trivial⟩⟩
  · exact hK.elim

section
variable {l : List Stk} {t : Tst} {n : Nat → Int}

theorem isD_n {h : VH} {m : Nat} (hm : h.at m = faN n) : isD h 2 (.ptr (.own m 0)) (.tp (nL n)) :=
  ⟨nL n, 80, by rw [hm]; rfl, ⟨rfl, rfl⟩, ⟨rfl, rfl⟩, ⟨rfl, rfl⟩, ⟨rfl, rfl⟩, ⟨rfl, rfl⟩, ⟨rfl, rfl⟩, trivial⟩
theorem isD_l {h : VH} {k : Nat} : isD h (k + 1) (.tl l.length 5 (stG l)) (stD l) := ⟨rfl, rfl, fun _ _ => rfl⟩

theorem vol_v (hn : nB n) (hl : lB l) : ∃ h', CallsV Try.prog 75 [.tp (stD l :: tsL t), .agg (nL n)] ⟨0, []⟩ (.ret (I (sumF (tmV l n) l.length))) h' := by
  obtain ⟨r, h', rfl, hc⟩ := of_callN (noL_good (tab1 smT_ok)) (f := 75) (args := [.tp (stD l :: tsL t), .agg (nL n)]) (h := ⟨0, []⟩) (K := fun r _ => r = .ret (I (sumF (tmV l n) l.length))) (by
    refine cast (vo_ev l t n _).symm ⟨l, n, isD_l, isD_n rfl, ⟨hn, hl⟩, rfl⟩)
  exact ⟨h', hc⟩
theorem cost_v (hn : nB n) (hl : lB l) : ∃ h', CallsV Try.prog 49 [.tp (stD l :: tsL t), .agg (nL n)] ⟨0, []⟩ (.ret (I (sumF (tmC l n) l.length))) h' := by
  obtain ⟨r, h', rfl, hc⟩ := of_callN (noL_good (tab1 smT_ok)) (f := 49) (args := [.tp (stD l :: tsL t), .agg (nL n)]) (h := ⟨0, []⟩) (K := fun r _ => r = .ret (I (sumF (tmC l n) l.length))) (by
    refine cast (co_ev l t n _).symm ⟨l, n, isD_l, isD_n rfl, ⟨hn, hl⟩, rfl⟩)
  exact ⟨h', hc⟩
theorem notes_v {k m : Nat} (hn : nB n) (hl : lB l) (hp : pB l m) (hk : k < m) : ∃ h', CallsV Try.prog 80 [.tp (stD l :: tsL t), .agg (nL n), I k] ⟨0, []⟩ (.ret (.agg [I (sumF (tmL l n k) l.length), I (sumF (tmH l n k) l.length)])) h' := by
  obtain ⟨r, h', rfl, hc⟩ := of_callN (noL_good (tab1 smT_ok)) (f := 80) (args := [.tp (stD l :: tsL t), .agg (nL n), I k]) (h := ⟨0, []⟩) (K := fun r _ => r = .ret (.agg [I (sumF (tmL l n k) l.length), I (sumF (tmH l n k) l.length)])) (by
    refine cast (no_ev l t n k _).symm ⟨l, n, k, isD_l, isD_n rfl, ⟨_, _, rfl, ⟨rfl, rfl⟩, trivial⟩, ⟨hn, hl, m, hp, hk⟩, l, n, k, isD_l, isD_n rfl, ⟨_, _, rfl, ⟨rfl, rfl⟩, trivial⟩, ⟨hn, hl, m, hp, hk⟩, rfl⟩)
  exact ⟨h', hc⟩

theorem ageF_bd {y : Int} (hl : lB l) (hy : 0 ≤ y ∧ y ≤ 1000) : ∀ k, k ≤ l.length → -1 ≤ ageF l n y k ∧ ageF l n y k ≤ 1100
  | 0, _ => by simp [ageF]
  | k + 1, h => by
    have h1 := ageF_bd hl hy k (by omega)
    obtain ⟨_, _, h4, _⟩ := hl.2 k (by omega)
    unfold ageF
    split <;> omega

theorem lAg_ok {y : Int} : LSound Try.prog true (.block 0 (.loop (loopB 0 (bodyOf Try.prog 79)))) 42 (lAg l t n y) := by
  by_cases hh : nB n ∧ lB l ∧ 0 ≤ y ∧ y ≤ 1000
  · obtain ⟨hn, hl, hy⟩ := hh
    have hl6 := hl.1
    refine loop_row hmix good0 (un := 10) (ds := dsA) (ns := [0]) (nx := 1) (fun i : Nat => VA l t n y i (ageF l n y i)) (fun _ => [faN n]) (fun i => i ≤ l.length) (fun i => l.length - i) (fun _ e vs bs => e = .exit 0 ∧ bs = [faN n] ∧ vs = VA l t n y l.length (ageF l n y l.length)) noL_ok ?_ ?_
    · rintro i h0
      refine cast (ag_ev l t n y i _ _).symm ?_
      by_cases hlt : i < l.length
      · obtain ⟨_, _, h4, _⟩ := hl.2 i hlt
        have hb := ageF_bd (n := n) hl hy i (by omega)
        have fin : ∀ a, a = ageF l n y (i + 1) → RoundQ (fun i : Nat => VA l t n y i (ageF l n y i)) (fun _ => [faN n]) (fun i => i ≤ l.length) (fun i => l.length - i) (fun _ e vs bs => e = .exit 0 ∧ bs = [faN n] ∧ vs = VA l t n y l.length (ageF l n y l.length)) i .normal (VA l t n y (i + 1) a) [faN n] := by
          rintro a rfl
          exact ⟨i + 1, by omega, by dsimp only; omega, rfl, fitBs_refl _, fun _ _ _ h => h⟩
        have hs : ageF l n y (i + 1) = if n i > 0 ∧ (ageF l n y i < 0 ∨ (l.getD i k0).age + y < ageF l n y i) then (l.getD i k0).age + y else ageF l n y i := rfl
        refine cond_dk (by omega) (cond_dk ⟨by omega, by omega⟩ (cond_dk ⟨by omega, by omega⟩ (cond_dk (by omega) ?_)))
        rw [show (i : Int).toNat = i by omega]
        have e2 : (fun k => (ch n).getD k 0) (i * 1) = n i := by
          rw [Nat.mul_one]
          exact ch_get (by omega)
        refine cond_d (fun g1 => cond_d (fun g2 => cond_r (by omega) (cond_r (by omega) (fin _ ?_))) (fun g2 => cond_r (by omega) (cond_d (fun g3 => cond_r (by omega) (cond_r (by omega) (fin _ ?_))) (fun g3 => cond_r (by omega) (fin _ ?_))))) (fun g1 => cond_r (by omega) (fin _ ?_))
        all_goals rw [e2] at g1
        · rw [hs, if_pos ⟨g1, .inl g2⟩]
        · rw [hs, if_pos ⟨g1, .inr g3⟩]
        · rw [hs, if_neg (by omega)]
        · rw [hs, if_neg (by omega)]
      · obtain rfl : i = l.length := by omega
        exact cond_d (fun h => by omega) (fun _ => ⟨rfl, rfl, rfl⟩)
    · rintro lock tt h K ⟨hf, _, k1⟩
      refine ⟨0, hf, Nat.zero_le _, ?_⟩
      rintro e vs bs ⟨rfl, rfl, rfl⟩
      exact k1
  · rintro lock tt h K ⟨hf, hc, _⟩
    exact (hh hc).elim

theorem age_v {y : Int} (hn : nB n) (hl : lB l) (hy : 0 ≤ y ∧ y ≤ 1000) : ∃ h', CallsV Try.prog 79 [.tp (stD l :: tsL t), .agg (nL n), I y] ⟨0, []⟩ (.ret (I (ageF l n y l.length))) h' := by
  have hall : LoopsOk Try.prog 79 [(0, lAg l t n y)] := fun x hx => by
    simp only [List.mem_singleton] at hx
    subst hx
    exact ⟨by kernel_rfl, lAg_ok⟩
  obtain ⟨r, h', rfl, hc⟩ := of_callN (callL_good hmix noSp hall (un := 10) 20) (f := 79) (args := [.tp (stD l :: tsL t), .agg (nL n), I y]) (h := ⟨0, []⟩) (K := fun r _ => r = .ret (I (ageF l n y l.length))) (by
    refine cast (agf_ev l t n y _).symm ?_
    exact ⟨⟨⟨rfl, rfl, VB.fit_refl _, trivial⟩, rfl, rfl, rfl, rfl, rfl, rfl, rfl, rfl, rfl, rfl, rfl, rfl, trivial⟩, ⟨hn, hl, hy⟩, rfl⟩)
  exact ⟨h', hc⟩
end

/-- The cellar's sums, as rows. -/
def volT : FuncId × Spec1 := (75, fun _ args h K => match args with
  | [c, .agg ns] => ∃ (l : List Stk) (t : Tst) (n : Nat → Int), isD h 4 c (.tp (stD l :: tsL t)) ∧ ns = nL n ∧ nB n ∧ lB l ∧ K (.ret (I (sumF (tmV l n) l.length))) h
  | _ => False)
def costT : FuncId × Spec1 := (49, fun _ args h K => match args with
  | [c, .agg ns] => ∃ (l : List Stk) (t : Tst) (n : Nat → Int), isD h 4 c (.tp (stD l :: tsL t)) ∧ ns = nL n ∧ nB n ∧ lB l ∧ K (.ret (I (sumF (tmC l n) l.length))) h
  | _ => False)
def notesT : FuncId × Spec1 := (80, fun _ args h K => match args with
  | [c, .agg ns, .int .i64 k'] => ∃ (l : List Stk) (t : Tst) (n : Nat → Int) (k m : Nat), isD h 4 c (.tp (stD l :: tsL t)) ∧ ns = nL n ∧ k' = k ∧ (nB n ∧ lB l ∧ pB l m ∧ k < m) ∧ K (.ret (.agg [I (sumF (tmL l n k) l.length), I (sumF (tmH l n k) l.length)])) h
  | _ => False)
def ageT : FuncId × Spec1 := (79, fun _ args h K => match args with
  | [c, .agg ns, .int .i64 y] => ∃ (l : List Stk) (t : Tst) (n : Nat → Int), isD h 4 c (.tp (stD l :: tsL t)) ∧ ns = nL n ∧ (nB n ∧ lB l ∧ 0 ≤ y ∧ y ≤ 1000) ∧ K (.ret (I (ageF l n y l.length))) h
  | _ => False)
theorem isD_nL {h : VH} {n : Nat → Int} {k : Nat} : isD h (k + 2) (.agg (nL n)) (.agg (nL n)) := ⟨⟨rfl, rfl⟩, ⟨rfl, rfl⟩, ⟨rfl, rfl⟩, ⟨rfl, rfl⟩, ⟨rfl, rfl⟩, ⟨rfl, rfl⟩, trivial⟩
theorem volT_ok : SpOk Try.prog volT.1 volT.2 := by
  intro lock args h K hK
  simp only [volT] at hK
  split at hK
  · obtain ⟨l, t, n, hc, rfl, hn, hl, hK⟩ := hK
    obtain ⟨h', hv⟩ := vol_v (t := t) hn hl
    exact ⟨_, h, hK, lockP_refl _ _, calls_lendDP 4 hv rfl ⟨hc, isD_nL, trivial⟩⟩
  · exact hK.elim
theorem costT_ok : SpOk Try.prog costT.1 costT.2 := by
  intro lock args h K hK
  simp only [costT] at hK
  split at hK
  · obtain ⟨l, t, n, hc, rfl, hn, hl, hK⟩ := hK
    obtain ⟨h', hv⟩ := cost_v (t := t) hn hl
    exact ⟨_, h, hK, lockP_refl _ _, calls_lendDP 4 hv rfl ⟨hc, isD_nL, trivial⟩⟩
  · exact hK.elim
theorem notesT_ok : SpOk Try.prog notesT.1 notesT.2 := by
  intro lock args h K hK
  simp only [notesT] at hK
  split at hK
  · obtain ⟨l, t, n, k, m, hc, rfl, rfl, ⟨hn, hl, hp, hk⟩, hK⟩ := hK
    obtain ⟨h', hv⟩ := notes_v (t := t) hn hl hp hk
    exact ⟨_, h, hK, lockP_refl _ _, calls_lendDP 4 hv rfl ⟨hc, isD_nL, ⟨rfl, rfl⟩, trivial⟩⟩
  · exact hK.elim
theorem ageT_ok : SpOk Try.prog ageT.1 ageT.2 := by
  intro lock args h K hK
  simp only [ageT] at hK
  split at hK
  · obtain ⟨l, t, n, hc, rfl, ⟨hn, hl, hy⟩, hK⟩ := hK
    obtain ⟨h', hv⟩ := age_v (t := t) hn hl hy
    exact ⟨_, h, hK, lockP_refl _ _, calls_lendDP 4 hv rfl ⟨hc, isD_nL, ⟨rfl, rfl⟩, trivial⟩⟩
  · exact hK.elim
end Go.Sx.Bln

/- blend: a blend, evaluated. -/

namespace Go.Sx.Bln
open Go Go.Sx Go.Proofs
set_option maxRecDepth 1000000

def dsB : List Nat := [45, 44, 43, 9, 8, 7, 6, 4, 0, 1, 2]
def VB4 (l : List Stk) (t : Tst) (n : Nat → Int) (y v a i : Int) : List VV := [I i, I t.T.length, inD t.T, .ptr (.own 2 0), I a, I v, .ptr (.own 1 0), .ptr (.own 0 0), .tp (stD l :: tsL t), .agg (nL n), I y]
abbrev zB : VB := .cells [I 0, I 0, I 0, .nils, .bool false] 49
def BB (n : Nat → Int) (v c a : Int) (P : List Sp) (b : Bool) : List VB := [faN n, zB, .cells [I v, I c, I a, .sl 3 P.length, .bool b] 49, .vec P.length (spG P) 2 34]
theorem br_ev (l : List Stk) (t : Tst) (n : Nat → Int) (y v c a1 a2 i : Int) (P : List Sp) (b : Bool) (X : VEx → List VV → List VB → Prop) : codeE Try.prog (callN Try.prog (tabS [notesT]) noL 10 20) (fun _ => none) true 10 104 0 (loopB 0 (bodyOf Try.prog 54)) (dsB.zip (VB4 l t n y v a1 i)) ⟨4, [0, 1, 2, 3].zip (BB n v c a2 P b)⟩ (obs 4 dsB [0, 1, 2, 3] X) =
  (bif decide (i < (↑t.T.length : Int)) then
 bif decide ((0 : Int) ≤ i ∧ i < (↑t.T.length : Int)) then
 ∃ (l_1 : List Stk) (t_1 : Tst) (n_1 : Nat → Int) (k m : Nat), isD (VH.mk 4 ([0, 1, 2, 3].zip (BB n v c a2 P b))) 4 (VV.tp (stD l :: tsL t)) (VV.tp (stD l_1 :: tsL t_1)) ∧ [I ((fun k => (ch n).getD k (0 : Int)) (0 + 0)), I ((fun k => (ch n).getD k (0 : Int)) (0 + 1)), I ((fun k => (ch n).getD k (0 : Int)) (0 + 2)), I ((fun k => (ch n).getD k (0 : Int)) (0 + 3)), I ((fun k => (ch n).getD k (0 : Int)) (0 + 4)), I ((fun k => (ch n).getD k (0 : Int)) (0 + 5))] = nL n_1 ∧ i = (↑k : Int) ∧ (nB n_1 ∧ lB l_1 ∧ pB l_1 m ∧ k < m) ∧ bif inK IntKind.i64 (t.T.getD i.toNat (0 : Int) + t.far) then
 bif inK IntKind.i64 ((t.T.getD i.toNat (0 : Int) + t.far) * v) then
 bif decide (sumF (tmH l_1 n_1 k) l_1.length > (t.T.getD i.toNat (0 : Int) + t.far) * v) then
 bif decide (v > (0 : Int)) then
 bif decide (v = (0 : Int)) then
 False
 else bif inK IntKind.i64 (quoZ (sumF (tmL l_1 n_1 k) l_1.length) v) then
 bif inK IntKind.i64 (sumF (tmH l_1 n_1 k) l_1.length + v) then
 bif inK IntKind.i64 (sumF (tmH l_1 n_1 k) l_1.length + v - (1 : Int)) then
 bif decide (v = (0 : Int)) then
 False
 else bif inK IntKind.i64 (quoZ (sumF (tmH l_1 n_1 k) l_1.length + v - (1 : Int)) v) then
 bif P.length.beq P.length then
 bif roomB (P.length + 1) (16) then
 bif inK IntKind.i64 (i + (1 : Int)) then
 X VEx.normal [I (i + (1 : Int)), I (↑t.T.length : Int), VV.tl t.T.length 1 (dG t.T), VV.ptr (VA.own 2 0), I a1, I v, VV.ptr (VA.own 1 0), VV.ptr (VA.own 0 0), VV.tp [VV.tl l.length 5 (stG l), VV.tl t.T.length 1 (dG t.T), I t.far, I t.least], VV.agg [I (n 0), I (n 1), I (n 2), I (n 3), I (n 4), I (n 5)], I y] [VB.fam [] 6 (fun k => (ch n).getD k (0 : Int)) (80 : TypeId), VB.cells [I 0, I 0, I 0, VV.nils, VV.bool false] (49 : TypeId), VB.cells [I v, I c, I a2, VV.sl 3 (P.length + 1), VV.bool false] (49 : TypeId), VB.vec (P.length + 1) (catG P.length (spG P) fun j => List.take (2) (List.drop (j * (2)) [I (quoZ (sumF (tmL l_1 n_1 k) l_1.length) v), I (quoZ (sumF (tmH l_1 n_1 k) l_1.length + v - (1 : Int)) v)])) (2) 34]
 else False
 else False
 else False
 else False
 else False
 else False
 else False
 else bif P.length.beq P.length then
 bif roomB (P.length + 1) (16) then
 bif inK IntKind.i64 (i + (1 : Int)) then
 X VEx.normal [I (i + (1 : Int)), I (↑t.T.length : Int), VV.tl t.T.length 1 (dG t.T), VV.ptr (VA.own 2 0), I a1, I v, VV.ptr (VA.own 1 0), VV.ptr (VA.own 0 0), VV.tp [VV.tl l.length 5 (stG l), VV.tl t.T.length 1 (dG t.T), I t.far, I t.least], VV.agg [I (n 0), I (n 1), I (n 2), I (n 3), I (n 4), I (n 5)], I y] [VB.fam [] 6 (fun k => (ch n).getD k (0 : Int)) (80 : TypeId), VB.cells [I 0, I 0, I 0, VV.nils, VV.bool false] (49 : TypeId), VB.cells [I v, I c, I a2, VV.sl 3 (P.length + 1), VV.bool false] (49 : TypeId), VB.vec (P.length + 1) (catG P.length (spG P) fun j => List.take (2) (List.drop (j * (2)) [I 0, I 0])) (2) 34]
 else False
 else False
 else False
 else bif inK IntKind.i64 (t.T.getD i.toNat (0 : Int) - t.far) then
 bif inK IntKind.i64 ((t.T.getD i.toNat (0 : Int) - t.far) * v) then
 bif decide (sumF (tmL l_1 n_1 k) l_1.length < (t.T.getD i.toNat (0 : Int) - t.far) * v) then
 bif decide (v > (0 : Int)) then
 bif decide (v = (0 : Int)) then
 False
 else bif inK IntKind.i64 (quoZ (sumF (tmL l_1 n_1 k) l_1.length) v) then
 bif inK IntKind.i64 (sumF (tmH l_1 n_1 k) l_1.length + v) then
 bif inK IntKind.i64 (sumF (tmH l_1 n_1 k) l_1.length + v - (1 : Int)) then
 bif decide (v = (0 : Int)) then
 False
 else bif inK IntKind.i64 (quoZ (sumF (tmH l_1 n_1 k) l_1.length + v - (1 : Int)) v) then
 bif P.length.beq P.length then
 bif roomB (P.length + 1) (16) then
 bif inK IntKind.i64 (i + (1 : Int)) then
 X VEx.normal [I (i + (1 : Int)), I (↑t.T.length : Int), VV.tl t.T.length 1 (dG t.T), VV.ptr (VA.own 2 0), I a1, I v, VV.ptr (VA.own 1 0), VV.ptr (VA.own 0 0), VV.tp [VV.tl l.length 5 (stG l), VV.tl t.T.length 1 (dG t.T), I t.far, I t.least], VV.agg [I (n 0), I (n 1), I (n 2), I (n 3), I (n 4), I (n 5)], I y] [VB.fam [] 6 (fun k => (ch n).getD k (0 : Int)) (80 : TypeId), VB.cells [I 0, I 0, I 0, VV.nils, VV.bool false] (49 : TypeId), VB.cells [I v, I c, I a2, VV.sl 3 (P.length + 1), VV.bool false] (49 : TypeId), VB.vec (P.length + 1) (catG P.length (spG P) fun j => List.take (2) (List.drop (j * (2)) [I (quoZ (sumF (tmL l_1 n_1 k) l_1.length) v), I (quoZ (sumF (tmH l_1 n_1 k) l_1.length + v - (1 : Int)) v)])) (2) 34]
 else False
 else False
 else False
 else False
 else False
 else False
 else False
 else bif P.length.beq P.length then
 bif roomB (P.length + 1) (16) then
 bif inK IntKind.i64 (i + (1 : Int)) then
 X VEx.normal [I (i + (1 : Int)), I (↑t.T.length : Int), VV.tl t.T.length 1 (dG t.T), VV.ptr (VA.own 2 0), I a1, I v, VV.ptr (VA.own 1 0), VV.ptr (VA.own 0 0), VV.tp [VV.tl l.length 5 (stG l), VV.tl t.T.length 1 (dG t.T), I t.far, I t.least], VV.agg [I (n 0), I (n 1), I (n 2), I (n 3), I (n 4), I (n 5)], I y] [VB.fam [] 6 (fun k => (ch n).getD k (0 : Int)) (80 : TypeId), VB.cells [I 0, I 0, I 0, VV.nils, VV.bool false] (49 : TypeId), VB.cells [I v, I c, I a2, VV.sl 3 (P.length + 1), VV.bool false] (49 : TypeId), VB.vec (P.length + 1) (catG P.length (spG P) fun j => List.take (2) (List.drop (j * (2)) [I 0, I 0])) (2) 34]
 else False
 else False
 else False
 else bif decide (v > (0 : Int)) then
 bif decide (v = (0 : Int)) then
 False
 else bif inK IntKind.i64 (quoZ (sumF (tmL l_1 n_1 k) l_1.length) v) then
 bif inK IntKind.i64 (sumF (tmH l_1 n_1 k) l_1.length + v) then
 bif inK IntKind.i64 (sumF (tmH l_1 n_1 k) l_1.length + v - (1 : Int)) then
 bif decide (v = (0 : Int)) then
 False
 else bif inK IntKind.i64 (quoZ (sumF (tmH l_1 n_1 k) l_1.length + v - (1 : Int)) v) then
 bif P.length.beq P.length then
 bif roomB (P.length + 1) (16) then
 bif inK IntKind.i64 (i + (1 : Int)) then
 X VEx.normal [I (i + (1 : Int)), I (↑t.T.length : Int), VV.tl t.T.length 1 (dG t.T), VV.ptr (VA.own 2 0), I a1, I v, VV.ptr (VA.own 1 0), VV.ptr (VA.own 0 0), VV.tp [VV.tl l.length 5 (stG l), VV.tl t.T.length 1 (dG t.T), I t.far, I t.least], VV.agg [I (n 0), I (n 1), I (n 2), I (n 3), I (n 4), I (n 5)], I y] [VB.fam [] 6 (fun k => (ch n).getD k (0 : Int)) (80 : TypeId), VB.cells [I 0, I 0, I 0, VV.nils, VV.bool false] (49 : TypeId), VB.cells [I v, I c, I a2, VV.sl 3 (P.length + 1), VV.bool b] (49 : TypeId), VB.vec (P.length + 1) (catG P.length (spG P) fun j => List.take (2) (List.drop (j * (2)) [I (quoZ (sumF (tmL l_1 n_1 k) l_1.length) v), I (quoZ (sumF (tmH l_1 n_1 k) l_1.length + v - (1 : Int)) v)])) (2) 34]
 else False
 else False
 else False
 else False
 else False
 else False
 else False
 else bif P.length.beq P.length then
 bif roomB (P.length + 1) (16) then
 bif inK IntKind.i64 (i + (1 : Int)) then
 X VEx.normal [I (i + (1 : Int)), I (↑t.T.length : Int), VV.tl t.T.length 1 (dG t.T), VV.ptr (VA.own 2 0), I a1, I v, VV.ptr (VA.own 1 0), VV.ptr (VA.own 0 0), VV.tp [VV.tl l.length 5 (stG l), VV.tl t.T.length 1 (dG t.T), I t.far, I t.least], VV.agg [I (n 0), I (n 1), I (n 2), I (n 3), I (n 4), I (n 5)], I y] [VB.fam [] 6 (fun k => (ch n).getD k (0 : Int)) (80 : TypeId), VB.cells [I 0, I 0, I 0, VV.nils, VV.bool false] (49 : TypeId), VB.cells [I v, I c, I a2, VV.sl 3 (P.length + 1), VV.bool b] (49 : TypeId), VB.vec (P.length + 1) (catG P.length (spG P) fun j => List.take (2) (List.drop (j * (2)) [I 0, I 0])) (2) 34]
 else False
 else False
 else False
 else False
 else False
 else False
 else False
 else False
 else X (VEx.exit 0) [I i, I (↑t.T.length : Int), VV.tl t.T.length 1 (dG t.T), VV.ptr (VA.own 2 0), I a1, I v, VV.ptr (VA.own 1 0), VV.ptr (VA.own 0 0), VV.tp [VV.tl l.length 5 (stG l), VV.tl t.T.length 1 (dG t.T), I t.far, I t.least], VV.agg [I (n 0), I (n 1), I (n 2), I (n 3), I (n 4), I (n 5)], I y] [VB.fam [] 6 (fun k => (ch n).getD k (0 : Int)) (80 : TypeId), VB.cells [I 0, I 0, I 0, VV.nils, VV.bool false] (49 : TypeId), VB.cells [I v, I c, I a2, VV.sl 3 P.length, VV.bool b] (49 : TypeId), VB.vec P.length (spG P) 2 (34 : TypeId)]) := by kernel_rfl

def tB (t : Tst) : Prop := (1 ≤ t.T.length ∧ t.T.length ≤ 4) ∧ (∀ k, k < t.T.length → 0 ≤ t.T.getD k 0 ∧ t.T.getD k 0 ≤ 1000) ∧ (0 ≤ t.far ∧ t.far ≤ 1000) ∧ 0 ≤ t.least ∧ t.least ≤ 100
abbrev volF (l : List Stk) (n : Nat → Int) : Int := sumF (tmV l n) l.length
abbrev costF (l : List Stk) (n : Nat → Int) : Int := sumF (tmC l n) l.length
abbrev loF (l : List Stk) (n : Nat → Int) (k : Nat) : Int := sumF (tmL l n k) l.length
abbrev hiF (l : List Stk) (n : Nat → Int) (k : Nat) : Int := sumF (tmH l n k) l.length
def okF (l : List Stk) (t : Tst) (n : Nat → Int) (k : Nat) : Bool := !decide (hiF l n k > (t.T.getD k 0 + t.far) * volF l n) && !decide (loF l n k < (t.T.getD k 0 - t.far) * volF l n)
def ownF (l : List Stk) (n : Nat → Int) (k : Nat) : Sp := if volF l n > 0 then ⟨quoZ (loF l n k) (volF l n), quoZ (hiF l n k + volF l n - 1) (volF l n)⟩ else ⟨0, 0⟩
def PF (l : List Stk) (n : Nat → Int) : Nat → List Sp
  | 0 => []
  | k + 1 => PF l n k ++ [ownF l n k]
def KF (l : List Stk) (t : Tst) (n : Nat → Int) (b : Bool) : Nat → Bool
  | 0 => b
  | k + 1 => KF l t n b k && okF l t n k
abbrev conB (l : List Stk) (t : Tst) (n : Nat → Int) : Prop := nB n ∧ lB l ∧ pB l t.T.length ∧ tB t
def lBs (l : List Stk) (t : Tst) (n : Nat → Int) (y c a1 a2 : Int) (b : Bool) : LT := fun lock tt h K =>
  FitP lock h tt ⟨4, [0, 1, 2, 3].zip (BB n (volF l n) c a2 [] b)⟩ (dsB.zip (VB4 l t n y (volF l n) a1 0)) ∧ conB l t n ∧ K .normal (dsB.zip (VB4 l t n y (volF l n) a1 t.T.length)) ⟨4, [0, 1, 2, 3].zip (BB n (volF l n) c a2 (PF l n t.T.length) (KF l t n b t.T.length))⟩
def lBl (l : List Stk) (t : Tst) (n : Nat → Int) (y c a1 a2 : Int) (b : Bool) : LT := fun lock tt h K =>
  FitP lock h tt ⟨3, [0, 1, 2].zip [faN n, zB, .cells [I (volF l n), I c, I a2, .nils, .bool b] 49]⟩ (dsB.zip (VB4 l t n y (volF l n) a1 0)) ∧ conB l t n ∧ K .normal (dsB.zip (VB4 l t n y (volF l n) a1 t.T.length)) ⟨4, [0, 1, 2, 3].zip (BB n (volF l n) c a2 (PF l n t.T.length) (KF l t n b t.T.length))⟩
theorem blf_ev (l : List Stk) (t : Tst) (n : Nat → Int) (y c a1 a2 : Int) (b : Bool) (Q : VRes → VH → Prop) : callN Try.prog (tabS [volT, costT, notesT, ageT]) (atF 54 [(0, lBl l t n y c a1 a2 b)]) 10 20 0 (.fn 54) [.tp (stD l :: tsL t), .agg (nL n), I y] ⟨0, []⟩ (fun r h => Q r h) =
  (∃ (l_1 : List Stk) (t_1 : Tst) (n_1 : Nat → Int), isD (maskH [0, 1] (VH.mk (2) [(1, VB.cells [I 0, I 0, I 0, VV.nils, VV.bool false] 49), (0, VB.fam [] (6) (fun k => [n 0, n 1, n 2, n 3, n 4, n 5].getD k (0 : Int)) 80)])) 4 (VV.tp (stD l :: tsL t)) (VV.tp (stD l_1 :: tsL t_1)) ∧ [I ((fun k => [n 0, n 1, n 2, n 3, n 4, n 5].getD k (0 : Int)) (0 + 0)), I ((fun k => [n 0, n 1, n 2, n 3, n 4, n 5].getD k (0 : Int)) (0 + 1)), I ((fun k => [n 0, n 1, n 2, n 3, n 4, n 5].getD k (0 : Int)) (0 + 2)), I ((fun k => [n 0, n 1, n 2, n 3, n 4, n 5].getD k (0 : Int)) (0 + 3)), I ((fun k => [n 0, n 1, n 2, n 3, n 4, n 5].getD k (0 : Int)) (0 + 4)), I ((fun k => [n 0, n 1, n 2, n 3, n 4, n 5].getD k (0 : Int)) (0 + 5))] = nL n_1 ∧ nB n_1 ∧ lB l_1 ∧ ∃ (l_2 : List Stk) (t_2 : Tst) (n_2 : Nat → Int), isD (VH.mk (2) [(1, VB.cells [I 0, I 0, I 0, VV.nils, VV.bool false] 49), (0, VB.fam [] (6) (fun k => [n 0, n 1, n 2, n 3, n 4, n 5].getD k (0 : Int)) 80)]) 4 (VV.tp (stD l :: tsL t)) (VV.tp (stD l_2 :: tsL t_2)) ∧ [I ((fun k => [n 0, n 1, n 2, n 3, n 4, n 5].getD k (0 : Int)) (0 + 0)), I ((fun k => [n 0, n 1, n 2, n 3, n 4, n 5].getD k (0 : Int)) (0 + 1)), I ((fun k => [n 0, n 1, n 2, n 3, n 4, n 5].getD k (0 : Int)) (0 + 2)), I ((fun k => [n 0, n 1, n 2, n 3, n 4, n 5].getD k (0 : Int)) (0 + 3)), I ((fun k => [n 0, n 1, n 2, n 3, n 4, n 5].getD k (0 : Int)) (0 + 4)), I ((fun k => [n 0, n 1, n 2, n 3, n 4, n 5].getD k (0 : Int)) (0 + 5))] = nL n_2 ∧ (nB n_2 ∧ lB l_2 ∧ (0 : Int) ≤ y ∧ y ≤ (1000 : Int)) ∧ ∃ (l_3 : List Stk) (t_3 : Tst) (n_3 : Nat → Int), isD (VH.mk (2) [(1, VB.cells [I 0, I 0, I 0, VV.nils, VV.bool false] 49), (0, VB.fam [] (6) (fun k => [n 0, n 1, n 2, n 3, n 4, n 5].getD k (0 : Int)) 80)]) 4 (VV.tp (stD l :: tsL t)) (VV.tp (stD l_3 :: tsL t_3)) ∧ [I ((fun k => [n 0, n 1, n 2, n 3, n 4, n 5].getD k (0 : Int)) (0 + 0)), I ((fun k => [n 0, n 1, n 2, n 3, n 4, n 5].getD k (0 : Int)) (0 + 1)), I ((fun k => [n 0, n 1, n 2, n 3, n 4, n 5].getD k (0 : Int)) (0 + 2)), I ((fun k => [n 0, n 1, n 2, n 3, n 4, n 5].getD k (0 : Int)) (0 + 3)), I ((fun k => [n 0, n 1, n 2, n 3, n 4, n 5].getD k (0 : Int)) (0 + 4)), I ((fun k => [n 0, n 1, n 2, n 3, n 4, n 5].getD k (0 : Int)) (0 + 5))] = nL n_3 ∧ nB n_3 ∧ lB l_3 ∧ bif decide (sumF (tmV l_1 n_1) l_1.length > (0 : Int)) then
 FitP 0 (VH.mk (3) [(2, VB.cells [I (sumF (tmV l_1 n_1) l_1.length), I (sumF (tmC l_3 n_3) l_3.length), I (max (0 : Int) (ageF l_2 n_2 y l_2.length)), VV.nils, VV.bool (decide (ageF l_2 n_2 y l_2.length ≥ t.least))] 49), (2, VB.cells [I 0, I 0, I 0, VV.nils, VV.bool false] 49), (1, VB.cells [I 0, I 0, I 0, VV.nils, VV.bool false] 49), (0, VB.fam [] (6) (fun k => [n 0, n 1, n 2, n 3, n 4, n 5].getD k (0 : Int)) 80)]) [(45, I 0), (44, I (↑t.T.length : Int)), (43, VV.tl t.T.length 1 (dG t.T)), (42, VV.tp [VV.tl t.T.length 1 (dG t.T), I t.far, I t.least]), (41, VV.tp [VV.tl t.T.length 1 (dG t.T), I t.far, I t.least]), (40, VV.tp (stD l :: tsL t)), (39, VV.tp (stD l :: tsL t)), (9, VV.ptr (VA.own (2) 0)), (38, VV.agg [I (sumF (tmV l_1 n_1) l_1.length), I (sumF (tmC l_3 n_3) l_3.length), I (max (0 : Int) (ageF l_2 n_2 y l_2.length)), VV.nils, VV.bool (decide (ageF l_2 n_2 y l_2.length ≥ t.least))]), (37, VV.bool (decide (ageF l_2 n_2 y l_2.length ≥ t.least))), (36, VV.bool (decide (ageF l_2 n_2 y l_2.length ≥ t.least))), (29, VV.bool true), (35, I t.least), (29, VV.bool true), (34, VV.tp [I t.least]), (29, VV.bool true), (33, VV.tp [VV.tl t.T.length 1 (dG t.T), I t.far, I t.least]), (29, VV.bool true), (32, VV.tp (stD l :: tsL t)), (29, VV.bool true), (31, VV.tp (stD l :: tsL t)), (29, VV.bool true), (30, I (ageF l_2 n_2 y l_2.length)), (29, VV.bool true), (29, VV.bool (decide (sumF (tmV l_1 n_1) l_1.length > (0 : Int)))), (28, VV.bool (decide (sumF (tmV l_1 n_1) l_1.length > (0 : Int)))), (27, I (sumF (tmV l_1 n_1) l_1.length)), (26, I (max (0 : Int) (ageF l_2 n_2 y l_2.length))), (25, I (ageF l_2 n_2 y l_2.length)), (24, I (sumF (tmC l_3 n_3) l_3.length)), (23, VV.agg [I ((fun k => [n 0, n 1, n 2, n 3, n 4, n 5].getD k (0 : Int)) (0 + 0)), I ((fun k => [n 0, n 1, n 2, n 3, n 4, n 5].getD k (0 : Int)) (0 + 1)), I ((fun k => [n 0, n 1, n 2, n 3, n 4, n 5].getD k (0 : Int)) (0 + 2)), I ((fun k => [n 0, n 1, n 2, n 3, n 4, n 5].getD k (0 : Int)) (0 + 3)), I ((fun k => [n 0, n 1, n 2, n 3, n 4, n 5].getD k (0 : Int)) (0 + 4)), I ((fun k => [n 0, n 1, n 2, n 3, n 4, n 5].getD k (0 : Int)) (0 + 5))]), (22, VV.tp (stD l :: tsL t)), (21, I (sumF (tmV l_1 n_1) l_1.length)), (8, I (ageF l_2 n_2 y l_2.length)), (7, I (sumF (tmV l_1 n_1) l_1.length)), (20, I (ageF l_2 n_2 y l_2.length)), (19, I y), (18, VV.agg [I ((fun k => [n 0, n 1, n 2, n 3, n 4, n 5].getD k (0 : Int)) (0 + 0)), I ((fun k => [n 0, n 1, n 2, n 3, n 4, n 5].getD k (0 : Int)) (0 + 1)), I ((fun k => [n 0, n 1, n 2, n 3, n 4, n 5].getD k (0 : Int)) (0 + 2)), I ((fun k => [n 0, n 1, n 2, n 3, n 4, n 5].getD k (0 : Int)) (0 + 3)), I ((fun k => [n 0, n 1, n 2, n 3, n 4, n 5].getD k (0 : Int)) (0 + 4)), I ((fun k => [n 0, n 1, n 2, n 3, n 4, n 5].getD k (0 : Int)) (0 + 5))]), (17, VV.tp (stD l :: tsL t)), (16, I (sumF (tmV l_1 n_1) l_1.length)), (15, VV.agg [I ((fun k => [n 0, n 1, n 2, n 3, n 4, n 5].getD k (0 : Int)) (0 + 0)), I ((fun k => [n 0, n 1, n 2, n 3, n 4, n 5].getD k (0 : Int)) (0 + 1)), I ((fun k => [n 0, n 1, n 2, n 3, n 4, n 5].getD k (0 : Int)) (0 + 2)), I ((fun k => [n 0, n 1, n 2, n 3, n 4, n 5].getD k (0 : Int)) (0 + 3)), I ((fun k => [n 0, n 1, n 2, n 3, n 4, n 5].getD k (0 : Int)) (0 + 4)), I ((fun k => [n 0, n 1, n 2, n 3, n 4, n 5].getD k (0 : Int)) (0 + 5))]), (14, VV.tp (stD l :: tsL t)), (6, VV.ptr (VA.own (1) 0)), (4, VV.ptr (VA.own 0 0)), (0, VV.tp (stD l :: tsL t)), (1, VV.agg (nL n)), (2, I y)] (VH.mk 3 ([0, 1, 2].zip [faN n, zB, VB.cells [I (volF l n), I c, I a2, VV.nils, VV.bool b] (49 : TypeId)])) (dsB.zip (VB4 l t n y (volF l n) a1 (0 : Int))) ∧ conB l t n ∧ Q (VRes.ret (VV.agg [I (volF l n), I c, I a2, VV.sl 3 (PF l n t.T.length).length, VV.bool (KF l t n b t.T.length)])) (VH.mk 4 [(1, VB.cells [I (volF l n), I c, I a2, VV.sl 3 (PF l n t.T.length).length, VV.bool (KF l t n b t.T.length)] (49 : TypeId)), (0, VB.fam [] 6 (fun k => (ch n).getD k (0 : Int)) (80 : TypeId)), (1, VB.cells [I 0, I 0, I 0, VV.nils, VV.bool false] (49 : TypeId)), (2, VB.cells [I (volF l n), I c, I a2, VV.sl 3 (PF l n t.T.length).length, VV.bool (KF l t n b t.T.length)] (49 : TypeId)), (3, VB.vec (PF l n t.T.length).length (spG (PF l n t.T.length)) 2 (34 : TypeId))])
 else FitP 0 (VH.mk (3) [(2, VB.cells [I (sumF (tmV l_1 n_1) l_1.length), I (sumF (tmC l_3 n_3) l_3.length), I (max (0 : Int) (ageF l_2 n_2 y l_2.length)), VV.nils, VV.bool false] 49), (2, VB.cells [I 0, I 0, I 0, VV.nils, VV.bool false] 49), (1, VB.cells [I 0, I 0, I 0, VV.nils, VV.bool false] 49), (0, VB.fam [] (6) (fun k => [n 0, n 1, n 2, n 3, n 4, n 5].getD k (0 : Int)) 80)]) [(45, I 0), (44, I (↑t.T.length : Int)), (43, VV.tl t.T.length 1 (dG t.T)), (42, VV.tp [VV.tl t.T.length 1 (dG t.T), I t.far, I t.least]), (41, VV.tp [VV.tl t.T.length 1 (dG t.T), I t.far, I t.least]), (40, VV.tp (stD l :: tsL t)), (39, VV.tp (stD l :: tsL t)), (9, VV.ptr (VA.own (2) 0)), (38, VV.agg [I (sumF (tmV l_1 n_1) l_1.length), I (sumF (tmC l_3 n_3) l_3.length), I (max (0 : Int) (ageF l_2 n_2 y l_2.length)), VV.nils, VV.bool false]), (37, VV.bool false), (36, udf), (29, VV.bool false), (35, udf), (29, VV.bool false), (34, udf), (29, VV.bool false), (33, udf), (29, VV.bool false), (32, udf), (29, VV.bool false), (31, udf), (29, VV.bool false), (30, udf), (29, VV.bool false), (29, VV.bool (decide (sumF (tmV l_1 n_1) l_1.length > (0 : Int)))), (28, VV.bool (decide (sumF (tmV l_1 n_1) l_1.length > (0 : Int)))), (27, I (sumF (tmV l_1 n_1) l_1.length)), (26, I (max (0 : Int) (ageF l_2 n_2 y l_2.length))), (25, I (ageF l_2 n_2 y l_2.length)), (24, I (sumF (tmC l_3 n_3) l_3.length)), (23, VV.agg [I ((fun k => [n 0, n 1, n 2, n 3, n 4, n 5].getD k (0 : Int)) (0 + 0)), I ((fun k => [n 0, n 1, n 2, n 3, n 4, n 5].getD k (0 : Int)) (0 + 1)), I ((fun k => [n 0, n 1, n 2, n 3, n 4, n 5].getD k (0 : Int)) (0 + 2)), I ((fun k => [n 0, n 1, n 2, n 3, n 4, n 5].getD k (0 : Int)) (0 + 3)), I ((fun k => [n 0, n 1, n 2, n 3, n 4, n 5].getD k (0 : Int)) (0 + 4)), I ((fun k => [n 0, n 1, n 2, n 3, n 4, n 5].getD k (0 : Int)) (0 + 5))]), (22, VV.tp (stD l :: tsL t)), (21, I (sumF (tmV l_1 n_1) l_1.length)), (8, I (ageF l_2 n_2 y l_2.length)), (7, I (sumF (tmV l_1 n_1) l_1.length)), (20, I (ageF l_2 n_2 y l_2.length)), (19, I y), (18, VV.agg [I ((fun k => [n 0, n 1, n 2, n 3, n 4, n 5].getD k (0 : Int)) (0 + 0)), I ((fun k => [n 0, n 1, n 2, n 3, n 4, n 5].getD k (0 : Int)) (0 + 1)), I ((fun k => [n 0, n 1, n 2, n 3, n 4, n 5].getD k (0 : Int)) (0 + 2)), I ((fun k => [n 0, n 1, n 2, n 3, n 4, n 5].getD k (0 : Int)) (0 + 3)), I ((fun k => [n 0, n 1, n 2, n 3, n 4, n 5].getD k (0 : Int)) (0 + 4)), I ((fun k => [n 0, n 1, n 2, n 3, n 4, n 5].getD k (0 : Int)) (0 + 5))]), (17, VV.tp (stD l :: tsL t)), (16, I (sumF (tmV l_1 n_1) l_1.length)), (15, VV.agg [I ((fun k => [n 0, n 1, n 2, n 3, n 4, n 5].getD k (0 : Int)) (0 + 0)), I ((fun k => [n 0, n 1, n 2, n 3, n 4, n 5].getD k (0 : Int)) (0 + 1)), I ((fun k => [n 0, n 1, n 2, n 3, n 4, n 5].getD k (0 : Int)) (0 + 2)), I ((fun k => [n 0, n 1, n 2, n 3, n 4, n 5].getD k (0 : Int)) (0 + 3)), I ((fun k => [n 0, n 1, n 2, n 3, n 4, n 5].getD k (0 : Int)) (0 + 4)), I ((fun k => [n 0, n 1, n 2, n 3, n 4, n 5].getD k (0 : Int)) (0 + 5))]), (14, VV.tp (stD l :: tsL t)), (6, VV.ptr (VA.own (1) 0)), (4, VV.ptr (VA.own 0 0)), (0, VV.tp (stD l :: tsL t)), (1, VV.agg (nL n)), (2, I y)] (VH.mk 3 ([0, 1, 2].zip [faN n, zB, VB.cells [I (volF l n), I c, I a2, VV.nils, VV.bool b] (49 : TypeId)])) (dsB.zip (VB4 l t n y (volF l n) a1 (0 : Int))) ∧ conB l t n ∧ Q (VRes.ret (VV.agg [I (volF l n), I c, I a2, VV.sl 3 (PF l n t.T.length).length, VV.bool (KF l t n b t.T.length)])) (VH.mk 4 [(1, VB.cells [I (volF l n), I c, I a2, VV.sl 3 (PF l n t.T.length).length, VV.bool (KF l t n b t.T.length)] (49 : TypeId)), (0, VB.fam [] 6 (fun k => (ch n).getD k (0 : Int)) (80 : TypeId)), (1, VB.cells [I 0, I 0, I 0, VV.nils, VV.bool false] (49 : TypeId)), (2, VB.cells [I (volF l n), I c, I a2, VV.sl 3 (PF l n t.T.length).length, VV.bool (KF l t n b t.T.length)] (49 : TypeId)), (3, VB.vec (PF l n t.T.length).length (spG (PF l n t.T.length)) 2 (34 : TypeId))])) := by kernel_rfl

end Go.Sx.Bln

/- blend: a blend. -/

namespace Go.Sx.Bln
open Go Go.Sx Go.Proofs
set_option maxRecDepth 1000000

theorem room16 {n : Nat} (h : n ≤ 100000) : roomB n 16 = true := by
  unfold roomB
  simp only [Bool.and_eq_true, Nat.ble_eq]
  omega
theorem fit_sp {P : List Sp} {x : Sp} : (VB.vec (P ++ [x]).length (spG (P ++ [x])) 2 34).fit (.vec (P.length + 1) (catG P.length (spG P) fun j => List.take 2 (List.drop (j * 2) [I x.lo, I x.hi])) 2 34) := by
  refine ⟨by simp, rfl, rfl, fun j hj => ?_⟩
  rw [List.length_append, List.length_singleton] at hj
  unfold catG
  by_cases hjk : j < P.length
  · rw [blt_t hjk]
    unfold spG
    rw [List.getD_eq_getElem?_getD (l := P ++ [x]), List.getElem?_append_left hjk, ← List.getD_eq_getElem?_getD]
    rfl
  · rw [blt_f (by omega)]
    obtain rfl : j = P.length := by omega
    unfold spG
    rw [List.getD_eq_getElem?_getD (l := P ++ [x]), List.getElem?_append_right (Nat.le_refl _), Nat.sub_self]
    rfl

section
variable {l : List Stk} {t : Tst} {n : Nat → Int} {y c a1 a2 : Int} {b : Bool}

theorem vol_bd (hn : nB n) (hl : lB l) : 0 ≤ volF l n ∧ volF l n ≤ 2359296 := by
  have h := sumF_bd (f := tmV l n) (M := 6 * 65536) l.length (fun i hi => bdSV ⟨hn, hl⟩ hi)
  have hl6 := hl.1
  have : ((l.length : Nat) : Int) * (6 * 65536) ≤ 6 * (6 * 65536) := Int.mul_le_mul_of_nonneg_right (by omega) (by decide)
  unfold volF
  omega
theorem cost_bd (hn : nB n) (hl : lB l) : 0 ≤ costF l n ∧ costF l n ≤ 37748736 := by
  have h := sumF_bd (f := tmC l n) (M := 6 * 1048576) l.length (fun i hi => bdSC ⟨hn, hl⟩ hi)
  have hl6 := hl.1
  have : ((l.length : Nat) : Int) * (6 * 1048576) ≤ 6 * (6 * 1048576) := Int.mul_le_mul_of_nonneg_right (by omega) (by decide)
  unfold costF
  omega
theorem note_bd {m k : Nat} (hn : nB n) (hl : lB l) (hp : pB l m) (hk : k < m) : (0 ≤ loF l n k ∧ loF l n k ≤ 2359296000) ∧ 0 ≤ hiF l n k ∧ hiF l n k ≤ 2359296000 := by
  have h := sumF_bd (f := tmL l n k) (M := 6 * 65536 * 1000) l.length (fun i hi => bdSL ⟨hn, hl, m, hp, hk⟩ hi)
  have h' := sumF_bd (f := tmH l n k) (M := 6 * 65536 * 1000) l.length (fun i hi => bdSH ⟨hn, hl, m, hp, hk⟩ hi)
  have hl6 := hl.1
  have : ((l.length : Nat) : Int) * (6 * 65536 * 1000) ≤ 6 * (6 * 65536 * 1000) := Int.mul_le_mul_of_nonneg_right (by omega) (by decide)
  unfold loF hiF
  omega
theorem quo_bd {a b M : Int} (ha : 0 ≤ a ∧ a ≤ M) (hb : 0 < b) : 0 ≤ quoZ a b ∧ quoZ a b ≤ M := by
  rw [quoZ_nn ha.1]
  exact ⟨Int.ediv_nonneg ha.1 (by omega), Int.le_trans (Int.ediv_le_self _ ha.1) ha.2⟩

theorem PF_len : ∀ k, (PF l n k).length = k
  | 0 => rfl
  | k + 1 => by
    unfold PF
    rw [List.length_append, List.length_singleton, PF_len k]

def outB (l : List Stk) (t : Tst) (n : Nat → Int) (y c a1 a2 : Int) (b : Bool) (_ : Nat) (e : VEx) (vs : List VV) (bs : List VB) : Prop :=
  e = .exit 0 ∧ bs = BB n (volF l n) c a2 (PF l n t.T.length) (KF l t n b t.T.length) ∧ vs = VB4 l t n y (volF l n) a1 t.T.length

theorem nt_good : Good Try.prog (callN Try.prog (tabS [notesT]) noL 10 20) := noL_good (tab1 notesT_ok)

theorem lBs_ok : LSound Try.prog true (.block 0 (.loop (loopB 0 (bodyOf Try.prog 54)))) 104 (lBs l t n y c a1 a2 b) := by
  by_cases hh : conB l t n
  · obtain ⟨hn, hl, hp, ⟨ht1, ht2⟩, htn, htf, _⟩ := hh
    refine loop_row hmix nt_good (un := 10) (ds := dsB) (ns := [0, 1, 2, 3]) (nx := 4) (fun k : Nat => VB4 l t n y (volF l n) a1 k) (fun k => BB n (volF l n) c a2 (PF l n k) (KF l t n b k)) (fun k => k ≤ t.T.length) (fun k => t.T.length - k) (outB l t n y c a1 a2 b) noL_ok ?_ ?_
    · rintro k h0
      refine cast (br_ev l t n y _ c a1 a2 k _ _ _).symm ?_
      by_cases hlt : k < t.T.length
      · obtain ⟨t1, t2⟩ := htn k hlt
        obtain ⟨⟨b1, b2⟩, b3, b4⟩ := note_bd hn hl hp hlt
        have hv := vol_bd hn hl
        have m1 := mul_bd (show 0 ≤ t.T.getD k 0 + t.far ∧ t.T.getD k 0 + t.far ≤ 2000 by omega) hv
        have m2 : -2359296000 ≤ (t.T.getD k 0 - t.far) * volF l n ∧ (t.T.getD k 0 - t.far) * volF l n ≤ 2359296000 := by
          have e1 := mul_bd (show 0 ≤ t.T.getD k 0 ∧ t.T.getD k 0 ≤ 1000 by omega) hv
          have e2 := mul_bd (show 0 ≤ t.far ∧ t.far ≤ 1000 by omega) hv
          rw [Int.sub_mul]
          omega
        have hlen := PF_len (l := l) (n := n) k
        have fin : ∀ (b' : Bool) (x : Sp), b' = KF l t n b (k + 1) → x = ownF l n k → RoundQ (fun k : Nat => VB4 l t n y (volF l n) a1 k) (fun k => BB n (volF l n) c a2 (PF l n k) (KF l t n b k)) (fun k => k ≤ t.T.length) (fun k => t.T.length - k) (outB l t n y c a1 a2 b) k .normal (VB4 l t n y (volF l n) a1 (k + 1)) [faN n, zB, .cells [I (volF l n), I c, I a2, .sl 3 ((PF l n k).length + 1), .bool b'] 49, .vec ((PF l n k).length + 1) (catG (PF l n k).length (spG (PF l n k)) fun j => List.take 2 (List.drop (j * 2) [I x.lo, I x.hi])) 2 34] := by
          rintro b' x rfl rfl
          refine ⟨k + 1, by omega, by dsimp only; omega, rfl, ?_, fun _ _ _ h => h⟩
          have e : PF l n (k + 1) = PF l n k ++ [ownF l n k] := rfl
          dsimp only
          unfold BB
          rw [e]
          refine ⟨VB.fit_refl _, VB.fit_refl _, ?_, fit_sp, trivial⟩
          show _ = _
          rw [List.length_append]
          rfl
        have tail : ∀ b', b' = KF l t n b (k + 1) → (bif decide (volF l n > 0) then (bif decide (volF l n = 0) then False else bif inK .i64 (quoZ (loF l n k) (volF l n)) then (bif inK .i64 (hiF l n k + volF l n) then (bif inK .i64 (hiF l n k + volF l n - 1) then (bif decide (volF l n = 0) then False else bif inK .i64 (quoZ (hiF l n k + volF l n - 1) (volF l n)) then (bif (PF l n k).length.beq (PF l n k).length then (bif roomB ((PF l n k).length + 1) 16 then (bif inK .i64 ((k : Int) + 1) then RoundQ (fun k : Nat => VB4 l t n y (volF l n) a1 k) (fun k => BB n (volF l n) c a2 (PF l n k) (KF l t n b k)) (fun k => k ≤ t.T.length) (fun k => t.T.length - k) (outB l t n y c a1 a2 b) k .normal (VB4 l t n y (volF l n) a1 (k + 1)) [faN n, zB, .cells [I (volF l n), I c, I a2, .sl 3 ((PF l n k).length + 1), .bool b'] 49, .vec ((PF l n k).length + 1) (catG (PF l n k).length (spG (PF l n k)) fun j => List.take 2 (List.drop (j * 2) [I (quoZ (loF l n k) (volF l n)), I (quoZ (hiF l n k + volF l n - 1) (volF l n))])) 2 34] else False) else False) else False) else False) else False) else False) else False)
            else bif (PF l n k).length.beq (PF l n k).length then (bif roomB ((PF l n k).length + 1) 16 then (bif inK .i64 ((k : Int) + 1) then RoundQ (fun k : Nat => VB4 l t n y (volF l n) a1 k) (fun k => BB n (volF l n) c a2 (PF l n k) (KF l t n b k)) (fun k => k ≤ t.T.length) (fun k => t.T.length - k) (outB l t n y c a1 a2 b) k .normal (VB4 l t n y (volF l n) a1 (k + 1)) [faN n, zB, .cells [I (volF l n), I c, I a2, .sl 3 ((PF l n k).length + 1), .bool b'] 49, .vec ((PF l n k).length + 1) (catG (PF l n k).length (spG (PF l n k)) fun j => List.take 2 (List.drop (j * 2) [I 0, I 0])) 2 34] else False) else False) else False) := by
          intro b' hb'
          refine cond_d (fun hv0 => cond_d (fun h => by omega) (fun _ => ?_)) (fun hv0 => cond_k (Nat.beq_refl _) (cond_k (room16 (by omega)) (cond_r (by omega) (fin b' ⟨0, 0⟩ hb' (by unfold ownF; rw [if_neg hv0])))))
          have q1 := quo_bd (a := loF l n k) (b := volF l n) ⟨b1, b2⟩ (by omega)
          have q2 := quo_bd (a := hiF l n k + volF l n - 1) (b := volF l n) (M := 2361655296) ⟨by omega, by omega⟩ (by omega)
          exact cond_r (by omega) (cond_r (by omega) (cond_r (by omega) (cond_d (fun h => by omega) (fun _ => cond_r (by omega) (cond_k (Nat.beq_refl _) (cond_k (room16 (by omega)) (cond_r (by omega) (fin b' ⟨quoZ (loF l n k) (volF l n), quoZ (hiF l n k + volF l n - 1) (volF l n)⟩ hb' (by unfold ownF; rw [if_pos hv0])))))))))
        refine cond_dk (by omega) (cond_dk ⟨by omega, by omega⟩ ⟨l, t, n, k, t.T.length, rfl, rfl, rfl, ⟨hn, hl, hp, hlt⟩, ?_⟩)
        rw [show (k : Int).toNat = k by omega]
        have hK : KF l t n b (k + 1) = (KF l t n b k && okF l t n k) := rfl
        refine cond_r (by omega) (cond_r (by omega) (cond_d (fun g1 => tail _ ?_) (fun g1 => cond_r (by omega) (cond_r (by omega) (cond_d (fun g2 => tail _ ?_) (fun g2 => tail _ ?_))))))
        · rw [hK]; unfold okF; rw [decide_eq_true g1]; simp
        · rw [hK]; unfold okF; rw [decide_eq_true g2]; simp
        · rw [hK]; unfold okF; rw [decide_eq_false g1, decide_eq_false g2]; simp
      · obtain rfl : k = t.T.length := by omega
        exact cond_d (fun h => by omega) (fun _ => ⟨rfl, rfl, rfl⟩)
    · rintro lock tt h K ⟨hf, _, k1⟩
      refine ⟨0, hf, Nat.zero_le _, ?_⟩
      rintro e vs bs ⟨rfl, rfl, rfl⟩
      exact k1
  · rintro lock tt h K ⟨hf, hc, _⟩
    exact (hh hc).elim

theorem lBl_ok : LSound Try.prog true (.block 0 (.loop (loopB 0 (bodyOf Try.prog 54)))) 104 (lBl l t n y c a1 a2 b) :=
  ghost_cells_row (m := 2) (nx := 3) (cs := [I (volF l n), I c, I a2, .nils, .bool b]) (cs' := [I (volF l n), I c, I a2, .sl 3 0, .bool b]) (ty := 49)
    (bs := [0, 1, 2].zip [faN n, zB, .cells [I (volF l n), I c, I a2, .nils, .bool b] 49]) (t0 := dsB.zip (VB4 l t n y (volF l n) a1 0))
    (spG []) 2 34 lBs_ok rfl (fun R xs hv hx => by
      obtain ⟨a0, _, k0, ⟨x1, _, k1, ⟨x2, _, k2, ⟨x3, _, k3, k4, rfl⟩, rfl⟩, rfl⟩, rfl⟩ := hx
      exact ⟨_, _, k0, ⟨_, _, k1, ⟨_, _, k2, ⟨_, _, nil_ghost hv k3, k4, rfl⟩, rfl⟩, rfl⟩, rfl⟩) (by
      rintro lock tt h K ⟨hf, hi, hK⟩
      exact ⟨hf, ⟨⟨rfl, rfl, VB.fit_refl _, VB.fit_refl _, VB.fit_refl _, VB.fit_refl _, trivial⟩, rfl, rfl, rfl, rfl, rfl, rfl, rfl, rfl, rfl, rfl, rfl, trivial⟩, hi, hK⟩)
end
end Go.Sx.Bln

/- blend: a blend, as a row. -/

namespace Go.Sx.Bln
open Go Go.Sx Go.Proofs
set_option maxRecDepth 1000000

/-- A blend. -/
structure Vt where
  v : Int
  c : Int
  a : Int
  P : List Sp
  k : Bool
def vtF (l : List Stk) (t : Tst) (n : Nat → Int) (y : Int) : Vt :=
  ⟨volF l n, costF l n, max 0 (ageF l n y l.length), PF l n t.T.length, KF l t n (decide (volF l n > 0) && decide (ageF l n y l.length ≥ t.least)) t.T.length⟩
def vtV (V : Vt) (m : Nat) : VV := .agg [I V.v, I V.c, I V.a, .sl m V.P.length, .bool V.k]
def vtB (V : Vt) : VB := .vec V.P.length (spG V.P) 2 34

theorem c4_tab : ∀ f T, tabS [volT, costT, notesT, ageT] f = some T → SpOk Try.prog f T := tab_ok _ (fun x hx => by
  simp only [List.mem_cons, List.not_mem_nil, or_false] at hx
  rcases hx with rfl | rfl | rfl | rfl
  · exact volT_ok
  · exact costT_ok
  · exact notesT_ok
  · exact ageT_ok)

theorem calls_lendDO {P : Program} {f : FuncId} {args args' : List VV} {h hm' : VH} {r : VRes} {b : VB} (n o : Nat) (hs : CallsV P f args ⟨0, []⟩ r hm') (h0 : hm'.at o = b) (h1 : ∀ i, hm'.at (o + (i + 1)) = .free) (hr : r.flat o = true) (hbl : b.flat) (ha : isDL h n args' args) :
    CallsV P f args' h (r.sh o h.nx) (h.new b) :=
  calls_lendD n o hs (bl := [b]) (fun i => by
    match i with
    | 0 => exact h0
    | i + 1 => exact h1 i) hr (fun c hc => by
    simp only [List.mem_singleton] at hc
    subst hc
    exact hbl) ha

theorem blend_v {l : List Stk} {t : Tst} {n : Nat → Int} {y : Int} (hh : conB l t n) (hy : 0 ≤ y ∧ y ≤ 1000) : ∃ h', CallsV Try.prog 54 [.tp (stD l :: tsL t), .agg (nL n), I y] ⟨0, []⟩ (.ret (vtV (vtF l t n y) 3)) h' ∧ h'.at 3 = vtB (vtF l t n y) ∧ ∀ i, h'.at (3 + (i + 1)) = .free := by
  have hall : LoopsOk Try.prog 54 [(0, lBl l t n y (costF l n) (ageF l n y l.length) (max 0 (ageF l n y l.length)) (decide (volF l n > 0) && decide (ageF l n y l.length ≥ t.least)))] := fun x hx => by
    simp only [List.mem_singleton] at hx
    subst hx
    exact ⟨by kernel_rfl, lBl_ok⟩
  obtain ⟨r, h', ⟨rfl, h1, h2⟩, hc⟩ := of_callN (callL_good hmix c4_tab hall (un := 10) 20) (f := 54) (args := [.tp (stD l :: tsL t), .agg (nL n), I y]) (h := ⟨0, []⟩) (K := fun r h' => r = .ret (vtV (vtF l t n y) 3) ∧ h'.at 3 = vtB (vtF l t n y) ∧ ∀ i, h'.at (3 + (i + 1)) = .free) (by
    refine cast (blf_ev l t n y _ _ _ _ _).symm ?_
    refine ⟨l, t, n, rfl, rfl, hh.1, hh.2.1, l, t, n, rfl, rfl, ⟨hh.1, hh.2.1, hy⟩, l, t, n, rfl, rfl, hh.1, hh.2.1, ?_⟩
    refine cond_d (fun hv => ?_) (fun hv => ?_)
    · refine ⟨⟨⟨rfl, rfl, VB.fit_refl _, VB.fit_refl _, ?_, trivial⟩, rfl, rfl, rfl, rfl, rfl, rfl, rfl, rfl, rfl, rfl, rfl, trivial⟩, hh, rfl, rfl, fun i => at_ge (by show ¬ 3 + (i + 1) < 4; omega)⟩
      have hv : decide (volF l n > 0) = true := decide_eq_true hv
      rw [hv]
      exact VB.fit_refl _
    · refine ⟨⟨⟨rfl, rfl, VB.fit_refl _, VB.fit_refl _, ?_, trivial⟩, rfl, rfl, rfl, rfl, rfl, rfl, rfl, rfl, rfl, rfl, rfl, trivial⟩, hh, rfl, rfl, fun i => at_ge (by show ¬ 3 + (i + 1) < 4; omega)⟩
      have hv : decide (volF l n > 0) = false := decide_eq_false hv
      rw [hv]
      exact VB.fit_refl _)
  exact ⟨h', hc, h1, h2⟩

/-- A blend, as a row. -/
def blT : FuncId × Spec1 := (54, fun _ args h K => match args with
  | [c, .agg ns, .int .i64 y] => ∃ (l : List Stk) (t : Tst) (n : Nat → Int), isD h 4 c (.tp (stD l :: tsL t)) ∧ ns = nL n ∧ (conB l t n ∧ 0 ≤ y ∧ y ≤ 1000) ∧ ∀ V, V = vtF l t n y → K (.ret (vtV V h.nx)) (h.new (vtB V))
  | _ => False)
theorem blT_ok : SpOk Try.prog blT.1 blT.2 := by
  intro lock args h K hK
  simp only [blT] at hK
  split at hK
  · rename_i c ns y
    obtain ⟨l, t, n, hc, rfl, ⟨hh, hy⟩, hK⟩ := hK
    obtain ⟨h', hv, h1, h2⟩ := blend_v hh hy
    have := calls_lendDO (args' := [c, .agg (nL n), I y]) (h := h) 4 3 hv h1 h2 rfl (fun i hi => rfl) ⟨hc, isD_nL, ⟨rfl, rfl⟩, trivial⟩
    have e : (VRes.ret (vtV (vtF l t n y) 3)).sh 3 h.nx = .ret (vtV (vtF l t n y) h.nx) := by
      simp [VRes.sh, vtV, VV.sh, shL, shN]
    rw [e] at this
    exact ⟨_, _, hK _ rfl, lockP_new _ _ _, this⟩
  · exact hK.elim
end Go.Sx.Bln

/- blend: Blend, evaluated. -/

namespace Go.Sx.Bln
open Go Go.Sx Go.Proofs
set_option maxRecDepth 1000000

end Go.Sx.Bln

/- blend: Blend. -/

namespace Go.Sx.Bln
open Go Go.Sx Go.Proofs
set_option maxRecDepth 1000000

theorem setF_get (g : Nat → Int) (o : Nat) (ns : List Int) (k : Nat) : setF g o ns k = if o ≤ k ∧ k < o + ns.length then ns.getD (k - o) 0 else g k := by
  match ns with
  | [] =>
    show (bif (Nat.ble o k && Nat.blt k (o + 0)) then _ else g k) = _
    rw [if_neg (by simp only [List.length_nil]; omega)]
    by_cases h1 : o ≤ k
    · rw [Nat.ble_eq_true_of_le h1, blt_f (by omega)]
      rfl
    · have : Nat.ble o k = false := by
        cases hb : Nat.ble o k with
        | false => rfl
        | true => exact (h1 (Nat.le_of_ble_eq_true hb)).elim
      rw [this]
      rfl
  | [x] =>
    show (bif Nat.beq k o then x else g k) = _
    by_cases h : k = o
    · subst h
      rw [Nat.beq_refl, if_pos (by simp)]
      simp
    · rw [beq_f h, if_neg (by simp; omega)]
      rfl
  | x :: y :: r =>
    show (bif (Nat.ble o k && Nat.blt k (o + (x :: y :: r).length)) then (x :: y :: r).getD (k - o) 0 else g k) = _
    by_cases h : o ≤ k ∧ k < o + (x :: y :: r).length
    · rw [if_pos h, Nat.ble_eq_true_of_le h.1, blt_t h.2]
      rfl
    · rw [if_neg h]
      by_cases h1 : o ≤ k
      · rw [Nat.ble_eq_true_of_le h1, blt_f (by omega)]
        rfl
      · have : Nat.ble o k = false := by
          cases hb : Nat.ble o k with
          | false => rfl
          | true => exact (h1 (Nat.le_of_ble_eq_true hb)).elim
        rw [this]
        rfl

theorem okT_tB {t : Tst} (h : okT t = true) : tB t := by
  unfold okT at h
  simp only [Bool.and_eq_true, decide_eq_true_eq, Bool.not_eq_true'] at h
  obtain ⟨⟨⟨h1, h2⟩, h3⟩, h4⟩ := h
  refine ⟨h1, fun k hk => ?_, h3, h4⟩
  unfold anyN at h2
  rw [List.any_eq_false] at h2
  have := h2 k (List.mem_range.2 hk)
  unfold qN okN at this
  simpa using this

section
variable {l : List Stk} {t : Tst} {y : Int} {D : List Int}

end
end Go.Sx.Bln

/- blend: Blend, as a row. -/

namespace Go.Sx.Bln
open Go Go.Sx Go.Proofs
set_option maxRecDepth 1000000

section
variable {l : List Stk} {t : Tst} {y : Int} {D : List Int}

end

end Go.Sx.Bln

/- blend: the document's tastes and choices, evaluated. -/

namespace Go.Sx.Bln
open Go Go.Sx Go.Proofs
set_option maxRecDepth 1000000

def BJ (t : Tst) : List VB := [.cells (tsL t) 25]

end Go.Sx.Bln

/- blend: the document's tastes and choices. -/

namespace Go.Sx.Bln
open Go Go.Sx Go.Proofs
set_option maxRecDepth 1000000

section
variable {l : List Stk} {t : Tst} {D : List Int}

end

end Go.Sx.Bln

/- blend: the document's stocks, evaluated. -/

namespace Go.Sx.Bln
open Go Go.Sx Go.Proofs
set_option maxRecDepth 1000000

end Go.Sx.Bln

/- blend: the document's stocks. -/

namespace Go.Sx.Bln
open Go Go.Sx Go.Proofs
set_option maxRecDepth 1000000

section
variable {l : List Stk} {t : Tst} {s : Stk} {i : Nat}

end

end Go.Sx.Bln

/- blend: the same blends, evaluated. -/

namespace Go.Sx.Bln
open Go Go.Sx Go.Proofs
set_option maxRecDepth 1000000

end Go.Sx.Bln

/- blend: the same blends. -/

namespace Go.Sx.Bln
open Go Go.Sx Go.Proofs
set_option maxRecDepth 1000000

section
variable {V : Vt}

end

end Go.Sx.Bln

/- blend: the document's blend: volume, cost, age; evaluated. -/

namespace Go.Sx.Bln
open Go Go.Sx Go.Proofs
set_option maxRecDepth 1000000

end Go.Sx.Bln

/- blend: the document's blend: volume, cost, age. -/

namespace Go.Sx.Bln
open Go Go.Sx Go.Proofs
set_option maxRecDepth 1000000

section
variable {l : List Stk} {t : Tst} {y v c : Int} {D : List Int}

end
end Go.Sx.Bln

/- blend: the document's blend: notes; evaluated. -/

namespace Go.Sx.Bln
open Go Go.Sx Go.Proofs
set_option maxRecDepth 1000000

end Go.Sx.Bln

/- blend: the document's blend: notes. -/

namespace Go.Sx.Bln
open Go Go.Sx Go.Proofs
set_option maxRecDepth 1000000

section
variable {l : List Stk} {t : Tst} {y v c a : Int} {P : List Sp} {b : Bool} {D : List Int} {k : Nat}

end
end Go.Sx.Bln

/- blend: the document's blend: the profile. -/

namespace Go.Sx.Bln
open Go Go.Sx Go.Proofs
set_option maxRecDepth 1000000

section
variable {l : List Stk} {t : Tst} {y c a : Int} {b : Bool} {D : List Int}

end
end Go.Sx.Bln
