/- stream: Nb1 Nb2 Nb3 Nb4, in one text. -/
import Derived.Test.YtnfkbbcbehnnkaaNA
/- nose: is a panel valid, evaluated. -/

namespace Go.Sx.Nos
open Go Go.Sx Go.Proofs
set_option maxRecDepth 100000

def inB (n lo hi : Int) : Bool := decide (lo ≤ n) && decide (n ≤ hi)
def witT : FuncId × Spec1 := (53, fun _ args h K => match args with
  | [.int .i64 n, .int .i64 lo, .int .i64 hi] => K (.ret (.bool (inB n lo hi))) h
  | _ => False)
def arD (p : Pn) : VB := arrOf 1 p.D.length (dG p.D)
def arT (p : Pn) : VB := arrOf 5 p.T.length (tG p.T)
def arS (p : Pn) : VB := arrOf 3 p.S.length (sG p.S)
/-- The panel, where it is the callee's argument: its lists lie at 0, 1, 2. -/
abbrev pnV (p : Pn) (c1 c2 c3 : Nat) : List VV := [.slice (.el 0 [] 0 0) p.D.length c1, .slice (.el 1 [] 0 0) p.T.length c2, .slice (.el 2 [] 0 0) p.S.length c3]
abbrev pnB (p : Pn) (c1 c2 c3 : Nat) : VB := .cells (pnV p c1 c2 c3) 26
def dsI : List Nat := [4, 0, 1, 7, 8]
def VI (n : Nat) (cap k : Nat) (f : VV) (r i : Int) : List VV := [I r, .slice (.el k [] 0 0) n cap, f, I n, I i]
def nsI : List Nat := [0, 1, 2, 3]
def BI (p : Pn) (c1 c2 c3 : Nat) : List VB := [arD p, arT p, arS p, pnB p c1 c2 c3]
theorem wit_ev (n lo hi : Int) (Q : VRes → VH → Prop) : callN Try.prog noSpec noL 10 20 0 (.fn 53) [I n, I lo, I hi] ⟨0, []⟩ Q =
  (bif decide (lo ≤ n) then
 Q (VRes.ret (VV.bool (decide (n ≤ hi)))) (VH.mk 0 [])
 else Q (VRes.ret (VV.bool false)) (VH.mk 0 [])) := by kernel_rfl

theorem i52_ev (p : Pn) (c1 c2 c3 : Nat) (r i : Int) (X : VEx → List VV → List VB → Prop) : codeE Try.prog (callN Try.prog (tabS [witT]) noL 10 20) (fun _ => none) true 10 19 0 (loopB 0 (bodyOf Try.prog 65)) (dsI.zip (VI p.D.length c1 0 (.func 52 [] []) r i)) ⟨4, nsI.zip (BI p c1 c2 c3)⟩ (obs 4 dsI nsI X) =
  (bif decide (i < (↑p.D.length : Int)) then
 bif decide ((0 : Int) ≤ i ∧ i < (↑p.D.length : Int)) then
 (([] : List Int) = [] ∧ (0 : Int) ≤ (0 : Int) + i ∧ (0 : Int) + i < (↑p.D.length : Int)) ∧ bif !inB (p.D.getD ((0 : Int) + i).toNat (0 : Int)) (0 : Int) (1000 : Int) then
 X VEx.ret [I i, VV.slice (VA.el 0 [] (0 : Int) 0) p.D.length c1, VV.func (52 : FuncId) [] [], I (↑p.D.length : Int), I i] (BI p c1 c2 c3)
 else bif inK IntKind.i64 (i + (1 : Int)) then
 X VEx.normal [I r, VV.slice (VA.el 0 [] (0 : Int) 0) p.D.length c1, VV.func (52 : FuncId) [] [], I (↑p.D.length : Int), I (i + (1 : Int))] (BI p c1 c2 c3)
 else False
 else False
 else X (VEx.exit 0) [I r, VV.slice (VA.el 0 [] (0 : Int) 0) p.D.length c1, VV.func (52 : FuncId) [] [], I (↑p.D.length : Int), I i] (BI p c1 c2 c3)) := by kernel_rfl

theorem i54_ev (p : Pn) (c1 c2 c3 : Nat) (r i : Int) (X : VEx → List VV → List VB → Prop) : codeE Try.prog (callN Try.prog (tabS [witT]) noL 10 20) (fun _ => none) true 10 19 0 (loopB 0 (bodyOf Try.prog 66)) (dsI.zip (VI p.T.length c2 1 (.func 54 [] [.ptr (.own 3 0)]) r i)) ⟨4, nsI.zip (BI p c1 c2 c3)⟩ (obs 4 dsI nsI X) =
  (bif decide (i < (↑p.T.length : Int)) then
 bif decide ((0 : Int) ≤ i ∧ i < (↑p.T.length : Int)) then
 (([] : List Int) = [] ∧ (0 : Int) ≤ (0 : Int) + i ∧ (0 : Int) + i < (↑p.T.length : Int)) ∧ bif inK IntKind.i64 ((↑p.D.length : Int) - (1 : Int)) then
 bif inB (p.T.getD ((0 : Int) + i).toNat t0).j (0 : Int) ((↑p.D.length : Int) - (1 : Int)) then
 bif inB (p.T.getD ((0 : Int) + i).toNat t0).s (0 : Int) (15 : Int) then
 bif !inB (p.T.getD ((0 : Int) + i).toNat t0).p (0 : Int) (1000 : Int) then
 X VEx.ret [I i, VV.slice (VA.el 1 [] (0 : Int) 0) p.T.length c2, VV.func (54 : FuncId) [] [VV.ptr (VA.own 3 0)], I (↑p.T.length : Int), I i] (BI p c1 c2 c3)
 else bif !inB (p.T.getD ((0 : Int) + i).toNat t0).c (-100000 : Int) (100000 : Int) then
 X VEx.ret [I i, VV.slice (VA.el 1 [] (0 : Int) 0) p.T.length c2, VV.func (54 : FuncId) [] [VV.ptr (VA.own 3 0)], I (↑p.T.length : Int), I i] (BI p c1 c2 c3)
 else bif !inB (p.T.getD ((0 : Int) + i).toNat t0).o (0 : Int) (10000 : Int) then
 X VEx.ret [I i, VV.slice (VA.el 1 [] (0 : Int) 0) p.T.length c2, VV.func (54 : FuncId) [] [VV.ptr (VA.own 3 0)], I (↑p.T.length : Int), I i] (BI p c1 c2 c3)
 else bif inK IntKind.i64 (i + (1 : Int)) then
 X VEx.normal [I r, VV.slice (VA.el 1 [] (0 : Int) 0) p.T.length c2, VV.func (54 : FuncId) [] [VV.ptr (VA.own 3 0)], I (↑p.T.length : Int), I (i + (1 : Int))] (BI p c1 c2 c3)
 else False
 else X VEx.ret [I i, VV.slice (VA.el 1 [] (0 : Int) 0) p.T.length c2, VV.func (54 : FuncId) [] [VV.ptr (VA.own 3 0)], I (↑p.T.length : Int), I i] (BI p c1 c2 c3)
 else X VEx.ret [I i, VV.slice (VA.el 1 [] (0 : Int) 0) p.T.length c2, VV.func (54 : FuncId) [] [VV.ptr (VA.own 3 0)], I (↑p.T.length : Int), I i] (BI p c1 c2 c3)
 else False
 else False
 else X (VEx.exit 0) [I r, VV.slice (VA.el 1 [] (0 : Int) 0) p.T.length c2, VV.func (54 : FuncId) [] [VV.ptr (VA.own 3 0)], I (↑p.T.length : Int), I i] (BI p c1 c2 c3)) := by kernel_rfl

theorem i55_ev (p : Pn) (c1 c2 c3 : Nat) (r i : Int) (X : VEx → List VV → List VB → Prop) : codeE Try.prog (callN Try.prog (tabS [witT]) noL 10 20) (fun _ => none) true 10 19 0 (loopB 0 (bodyOf Try.prog 67)) (dsI.zip (VI p.S.length c3 2 (.func 55 [] []) r i)) ⟨4, nsI.zip (BI p c1 c2 c3)⟩ (obs 4 dsI nsI X) =
  (bif decide (i < (↑p.S.length : Int)) then
 bif decide ((0 : Int) ≤ i ∧ i < (↑p.S.length : Int)) then
 (([] : List Int) = [] ∧ (0 : Int) ≤ (0 : Int) + i ∧ (0 : Int) + i < (↑p.S.length : Int)) ∧ bif !inB (p.S.getD ((0 : Int) + i).toNat s0).s (0 : Int) (15 : Int) then
 X VEx.ret [I i, VV.slice (VA.el 2 [] (0 : Int) 0) p.S.length c3, VV.func (55 : FuncId) [] [], I (↑p.S.length : Int), I i] (BI p c1 c2 c3)
 else bif decide ((p.S.getD ((0 : Int) + i).toNat s0).lo < (-100000 : Int)) then
 X VEx.ret [I i, VV.slice (VA.el 2 [] (0 : Int) 0) p.S.length c3, VV.func (55 : FuncId) [] [], I (↑p.S.length : Int), I i] (BI p c1 c2 c3)
 else bif decide ((p.S.getD ((0 : Int) + i).toNat s0).lo > (p.S.getD ((0 : Int) + i).toNat s0).hi) then
 X VEx.ret [I i, VV.slice (VA.el 2 [] (0 : Int) 0) p.S.length c3, VV.func (55 : FuncId) [] [], I (↑p.S.length : Int), I i] (BI p c1 c2 c3)
 else bif decide ((p.S.getD ((0 : Int) + i).toNat s0).hi > (100000 : Int)) then
 X VEx.ret [I i, VV.slice (VA.el 2 [] (0 : Int) 0) p.S.length c3, VV.func (55 : FuncId) [] [], I (↑p.S.length : Int), I i] (BI p c1 c2 c3)
 else bif inK IntKind.i64 (i + (1 : Int)) then
 X VEx.normal [I r, VV.slice (VA.el 2 [] (0 : Int) 0) p.S.length c3, VV.func (55 : FuncId) [] [], I (↑p.S.length : Int), I (i + (1 : Int))] (BI p c1 c2 c3)
 else False
 else False
 else X (VEx.exit 0) [I r, VV.slice (VA.el 2 [] (0 : Int) 0) p.S.length c3, VV.func (55 : FuncId) [] [], I (↑p.S.length : Int), I i] (BI p c1 c2 c3)) := by kernel_rfl


end Go.Sx.Nos

/- nose: is a panel valid. -/

namespace Go.Sx.Nos
open Go Go.Sx Go.Proofs
set_option maxRecDepth 100000

theorem witT_ok : SpOk Try.prog witT.1 witT.2 := by
  intro lock args h K hK
  simp only [witT] at hK
  split at hK
  · rename_i n lo hi
    refine ⟨_, h, hK, lockP_refl _ _, by_bo good0 (f := 53) (args := [I n, I lo, I hi]) (b := inB n lo hi) ?_ rfl h⟩
    refine cast (wit_ev n lo hi _).symm ?_
    unfold inB
    refine cond_d (fun h => ?_) (fun h => ?_)
    · rw [decide_eq_true h]; rfl
    · rw [decide_eq_false h]; rfl
  · exact hK.elim

theorem tWi_ok : ∀ x ∈ [witT], SpOk Try.prog x.1 x.2 := fun x hx => by
  simp only [List.mem_singleton] at hx
  subst hx
  exact witT_ok

/-- A loop that looks for the first bad element. -/
def LAny (nx : Nat) (ds ns : List Nat) (V : Int → Int → List VV) (B : List VB) (n : Nat) (bad : Nat → Bool) : LT := fun lock t h K =>
  FitP lock h t ⟨nx, ns.zip B⟩ (ds.zip (V 0 0)) ∧ ((∀ i, i < n → bad i = false) → K .normal (ds.zip (V 0 n)) ⟨nx, ns.zip B⟩) ∧
    ((∃ i, i < n ∧ bad i = true) → ∀ r j : Int, 0 ≤ r → K .ret (ds.zip (V r j)) ⟨nx, ns.zip B⟩)

def OAny (V : Int → Int → List VV) (B : List VB) (n : Nat) (bad : Nat → Bool) (i : Nat) (x : VEx) (vs : List VV) (bs : List VB) : Prop :=
  (x = .exit 0 ∧ (∀ j, i ≤ j → j < n → bad j = false) ∧ vs = V 0 n ∧ bs = B) ∨
  (x = .ret ∧ (∃ j, i ≤ j ∧ j < n ∧ bad j = true) ∧ (∃ r j : Int, 0 ≤ r ∧ vs = V r j) ∧ bs = B)

theorem any_row {call : CallT} (hg : Good Try.prog call) {f : FuncId} {nx n : Nat} {ds ns : List Nat} {V : Int → Int → List VV} {B : List VB} {bad : Nat → Bool}

    (round : ∀ (i : Nat) (X : VEx → List VV → List VB → Prop), i ≤ n → (if i < n then (if bad i = true then X .ret (V i i) B else X .normal (V 0 (i + 1)) B) else X (.exit 0) (V 0 n) B) →
      codeE Try.prog call (fun _ => none) true 10 (ntOf Try.prog f) 0 (loopB 0 (bodyOf Try.prog f)) (ds.zip (V 0 i)) ⟨nx, ns.zip B⟩ (obs nx ds ns X)) : LSound Try.prog true (.block 0 (.loop (loopB 0 (bodyOf Try.prog f)))) (ntOf Try.prog f) (LAny nx ds ns V B n bad) := by
  refine loop_row hmix hg (un := 10) (ds := ds) (ns := ns) (nx := nx) (fun i : Nat => V 0 i) (fun _ => B) (fun i => i ≤ n) (fun i => n - i) (OAny V B n bad) noL_ok (fun i hi => round i _ hi ?_) ?_
  · by_cases h : i < n
    · rw [if_pos h]
      by_cases hb : bad i = true
      · rw [if_pos hb]
        exact .inr ⟨rfl, ⟨i, Nat.le_refl i, h, hb⟩, ⟨i, i, Int.natCast_nonneg _, rfl⟩, rfl⟩
      · rw [if_neg hb]
        have hb : bad i = false := by simpa using hb
        refine ⟨i + 1, by omega, by dsimp only; omega, by show _ = V 0 ((i + 1 : Nat) : Int); rw [Int.natCast_add]; rfl, fitBs_refl _, fun e vs bs ho => ?_⟩
        rcases ho with ⟨a1, a2, a3⟩ | ⟨a1, ⟨j, b1, b2⟩, a3⟩
        · refine .inl ⟨a1, fun j h1 h2 => ?_, a3⟩
          by_cases hj : j = i
          · rw [hj]; exact hb
          · exact a2 j (by omega) h2
        · exact .inr ⟨a1, ⟨j, by omega, b2⟩, a3⟩
    · rw [if_neg h]
      exact .inl ⟨rfl, fun j h1 h2 => by omega, rfl, rfl⟩
  · rintro lock t h K ⟨hf, h1, h2⟩
    refine ⟨0, hf, Nat.zero_le n, ?_⟩
    rintro x vs bs (⟨rfl, he, rfl, rfl⟩ | ⟨rfl, ⟨j, _, hj, hb⟩, ⟨r, k, hr, rfl⟩, rfl⟩)
    · exact h1 fun i hi => he i (Nat.zero_le i) hi
    · exact h2 ⟨j, hj, hb⟩ r k hr

def dOk (n : Int) : Bool := inB n 0 1000
def tOk (p : Pn) (t : Ts) : Bool := inB t.j 0 (p.D.length - 1) && (inB t.s 0 15 && (inB t.p 0 1000 && (inB t.c (-100000) 100000 && inB t.o 0 10000)))
def sOk (s : Sd) : Bool := inB s.s 0 15 && (decide (-100000 ≤ s.lo) && (decide (s.lo ≤ s.hi) && decide (s.hi ≤ 100000)))

section
variable {p : Pn} {c1 c2 c3 : Nat}

theorem zero_toNat (i : Nat) : ((0 : Int) + (i : Int)).toNat = i := by omega

theorem L52_ok (hn : p.D.length ≤ 100) : LSound Try.prog true (.block 0 (.loop (loopB 0 (bodyOf Try.prog 65)))) (ntOf Try.prog 65) (LAny 4 dsI nsI (fun r i => VI p.D.length c1 0 (.func 52 [] []) r i) (BI p c1 c2 c3) p.D.length fun i => !dOk (p.D.getD i 0)) := by
  refine any_row (tab_good hmix tWi_ok (unroll := 10) 20) fun i X hi hX => ?_
  refine cast (i52_ev p c1 c2 c3 0 i X).symm ?_
  by_cases h : i < p.D.length
  · rw [if_pos h] at hX
    refine cond_dk (by omega) (cond_dk ⟨by omega, by omega⟩ ⟨⟨rfl, by omega, by omega⟩, ?_⟩)
    rw [zero_toNat]
    refine cond_b (fun hb => ?_) (fun hb => cond_r (by omega) ?_)
    · rw [if_pos (show (!dOk (p.D.getD i 0)) = true from hb)] at hX; exact hX
    · rw [if_neg (by unfold dOk; rw [hb]; decide)] at hX; exact hX
  · rw [if_neg h] at hX
    have : i = p.D.length := by omega
    subst this
    exact cond_d (fun h => by omega) (fun _ => hX)

theorem L54_ok (hn : p.T.length ≤ 100) (hd : p.D.length ≤ 100) : LSound Try.prog true (.block 0 (.loop (loopB 0 (bodyOf Try.prog 66)))) (ntOf Try.prog 66) (LAny 4 dsI nsI (fun r i => VI p.T.length c2 1 (.func 54 [] [.ptr (.own 3 0)]) r i) (BI p c1 c2 c3) p.T.length fun i => !tOk p (p.T.getD i t0)) := by
  refine any_row (tab_good hmix tWi_ok (unroll := 10) 20) fun i X hi hX => ?_
  refine cast (i54_ev p c1 c2 c3 0 i X).symm ?_
  by_cases h : i < p.T.length
  · rw [if_pos h] at hX
    refine cond_dk (by omega) (cond_dk ⟨by omega, by omega⟩ ⟨⟨rfl, by omega, by omega⟩, cond_r (by omega) ?_⟩)
    rw [zero_toNat]
    unfold tOk at hX
    refine cond_b (fun b1 => cond_b (fun b2 => cond_b (fun b3 => ?_) (fun b3 => cond_b (fun b4 => ?_) (fun b4 => cond_b (fun b5 => ?_) (fun b5 => cond_r (by omega) ?_)))) (fun b2 => ?_)) (fun b1 => ?_)
    · rw [if_pos (by simp only [Bool.not_eq_true'] at b3; rw [b1, b2, b3]; rfl)] at hX; exact hX
    · rw [if_pos (by simp only [Bool.not_eq_true', Bool.not_eq_false'] at b3 b4; rw [b1, b2, b3, b4]; rfl)] at hX; exact hX
    · rw [if_pos (by simp only [Bool.not_eq_true', Bool.not_eq_false'] at b3 b4 b5; rw [b1, b2, b3, b4, b5]; rfl)] at hX; exact hX
    · rw [if_neg (by simp only [Bool.not_eq_true', Bool.not_eq_false'] at b3 b4 b5; rw [b1, b2, b3, b4, b5]; decide)] at hX; exact hX
    · rw [if_pos (by rw [b1, b2]; rfl)] at hX; exact hX
    · rw [if_pos (by rw [b1]; rfl)] at hX; exact hX
  · rw [if_neg h] at hX
    have : i = p.T.length := by omega
    subst this
    exact cond_d (fun h => by omega) (fun _ => hX)

theorem L55_ok (hn : p.S.length ≤ 100) : LSound Try.prog true (.block 0 (.loop (loopB 0 (bodyOf Try.prog 67)))) (ntOf Try.prog 67) (LAny 4 dsI nsI (fun r i => VI p.S.length c3 2 (.func 55 [] []) r i) (BI p c1 c2 c3) p.S.length fun i => !sOk (p.S.getD i s0)) := by
  refine any_row (tab_good hmix tWi_ok (unroll := 10) 20) fun i X hi hX => ?_
  refine cast (i55_ev p c1 c2 c3 0 i X).symm ?_
  by_cases h : i < p.S.length
  · rw [if_pos h] at hX
    refine cond_dk (by omega) (cond_dk ⟨by omega, by omega⟩ ⟨⟨rfl, by omega, by omega⟩, ?_⟩)
    rw [zero_toNat]
    unfold sOk at hX
    refine cond_b (fun b1 => ?_) (fun b1 => cond_d (fun b2 => ?_) (fun b2 => cond_d (fun b3 => ?_) (fun b3 => cond_d (fun b4 => ?_) (fun b4 => cond_r (by omega) ?_))))
    · rw [if_pos (by simp only [Bool.not_eq_true'] at b1; rw [b1]; rfl)] at hX; exact hX
    · rw [if_pos (by simp only [Bool.not_eq_false'] at b1; rw [b1, decide_eq_false (by omega)]; rfl)] at hX; exact hX
    · rw [if_pos (by simp only [Bool.not_eq_false'] at b1; rw [b1, decide_eq_true (by omega), decide_eq_false (by omega)]; rfl)] at hX; exact hX
    · rw [if_pos (by simp only [Bool.not_eq_false'] at b1; rw [b1, decide_eq_true (by omega), decide_eq_true (by omega), decide_eq_false (by omega)]; rfl)] at hX; exact hX
    · rw [if_neg (by simp only [Bool.not_eq_false'] at b1; rw [b1, decide_eq_true (by omega), decide_eq_true (by omega), decide_eq_true (by omega)]; decide)] at hX; exact hX
  · rw [if_neg h] at hX
    have : i = p.S.length := by omega
    subst this
    exact cond_d (fun h => by omega) (fun _ => hX)
end
end Go.Sx.Nos

/- nose: is a panel valid, evaluated. -/

namespace Go.Sx.Nos
open Go Go.Sx Go.Proofs
set_option maxRecDepth 100000

def at3 (a b c : FuncId) (la lb lc : List (Nat × LT)) : FuncId → Nat → Option LT := fun x id => bif Nat.beq x a then tabB la id else bif Nat.beq x b then tabB lb id else bif Nat.beq x c then tabB lc id else none
def gL (c : Prop) (T : LT) : LT := fun lock t h K => c ∧ T lock t h K
def l52 (p : Pn) (c1 c2 c3 : Nat) : LT := gL (p.D.length ≤ 100) <| LAny 4 dsI nsI (fun r i => VI p.D.length c1 0 (.func 52 [] []) r i) (BI p c1 c2 c3) p.D.length fun i => !dOk (p.D.getD i 0)
def l54 (p : Pn) (c1 c2 c3 : Nat) : LT := gL (p.T.length ≤ 100 ∧ p.D.length ≤ 100) <| LAny 4 dsI nsI (fun r i => VI p.T.length c2 1 (.func 54 [] [.ptr (.own 3 0)]) r i) (BI p c1 c2 c3) p.T.length fun i => !tOk p (p.T.getD i t0)
def l55 (p : Pn) (c1 c2 c3 : Nat) : LT := gL (p.S.length ≤ 100) <| LAny 4 dsI nsI (fun r i => VI p.S.length c3 2 (.func 55 [] []) r i) (BI p c1 c2 c3) p.S.length fun i => !sOk (p.S.getD i s0)
def pnH (p : Pn) : VH := ⟨3, [(0, arD p), (1, arT p), (2, arS p)]⟩
theorem f40_ev (p : Pn) (c1 c2 c3 : Nat) (Q : VRes → Prop) : callN Try.prog noSpec (at3 65 66 67 [(0, l52 p c1 c2 c3)] [(0, l54 p c1 c2 c3)] [(0, l55 p c1 c2 c3)]) 10 20 0 (.fn 40) [.agg (pnV p c1 c2 c3)] (pnH p) (fun r _ => Q r) =
  (bif decide ((↑p.D.length : Int) > (8 : Int)) then
 Q (VRes.ret (VV.bool false))
 else bif decide ((↑p.T.length : Int) > (48 : Int)) then
 Q (VRes.ret (VV.bool false))
 else bif decide ((↑p.S.length : Int) > (16 : Int)) then
 Q (VRes.ret (VV.bool false))
 else p.D.length ≤ 100 ∧ FitP 0 (VH.mk 4 (nsI.zip (BI p c1 c2 c3))) (dsI.zip ((fun r i => VI p.D.length c1 0 (VV.func (52 : FuncId) [] []) r i) (0 : Int) (0 : Int))) (VH.mk 4 (nsI.zip (BI p c1 c2 c3))) (dsI.zip ((fun r i => VI p.D.length c1 0 (VV.func (52 : FuncId) [] []) r i) (0 : Int) (0 : Int))) ∧ ((∀ (i : Nat), i < p.D.length → (fun i => !dOk (p.D.getD i (0 : Int))) i = false) → (p.T.length ≤ 100 ∧ p.D.length ≤ 100) ∧ FitP 0 (VH.mk 4 (nsI.zip (BI p c1 c2 c3))) (dsI.zip ((fun r i => VI p.T.length c2 1 (VV.func (54 : FuncId) [] [VV.ptr (VA.own 3 0)]) r i) (0 : Int) (0 : Int))) (VH.mk 4 (nsI.zip (BI p c1 c2 c3))) (dsI.zip ((fun r i => VI p.T.length c2 1 (VV.func (54 : FuncId) [] [VV.ptr (VA.own 3 0)]) r i) (0 : Int) (0 : Int))) ∧ ((∀ (i : Nat), i < p.T.length → (fun i => !tOk p (p.T.getD i t0)) i = false) → p.S.length ≤ 100 ∧ FitP 0 (VH.mk 4 (nsI.zip (BI p c1 c2 c3))) (dsI.zip ((fun r i => VI p.S.length c3 2 (VV.func (55 : FuncId) [] []) r i) (0 : Int) (0 : Int))) (VH.mk 4 (nsI.zip (BI p c1 c2 c3))) (dsI.zip ((fun r i => VI p.S.length c3 2 (VV.func (55 : FuncId) [] []) r i) (0 : Int) (0 : Int))) ∧ ((∀ (i : Nat), i < p.S.length → (fun i => !sOk (p.S.getD i s0)) i = false) → Q (VRes.ret (VV.bool !decide ((-1 : Int) ≥ (0 : Int))))) ∧ ((∃ i, i < p.S.length ∧ (fun i => !sOk (p.S.getD i s0)) i = true) → ∀ (r j : Int), (0 : Int) ≤ r → Q (VRes.ret (VV.bool !decide (r ≥ (0 : Int)))))) ∧ ((∃ i, i < p.T.length ∧ (fun i => !tOk p (p.T.getD i t0)) i = true) → ∀ (r j : Int), (0 : Int) ≤ r → bif !decide (r ≥ (0 : Int)) then
 p.S.length ≤ 100 ∧ FitP 0 (VH.mk 4 (nsI.zip (BI p c1 c2 c3))) (dsI.zip ((fun r i => VI p.S.length c3 2 (VV.func (55 : FuncId) [] []) r i) (0 : Int) (0 : Int))) (VH.mk 4 (nsI.zip (BI p c1 c2 c3))) (dsI.zip ((fun r i => VI p.S.length c3 2 (VV.func (55 : FuncId) [] []) r i) (0 : Int) (0 : Int))) ∧ ((∀ (i : Nat), i < p.S.length → (fun i => !sOk (p.S.getD i s0)) i = false) → Q (VRes.ret (VV.bool !decide ((-1 : Int) ≥ (0 : Int))))) ∧ ((∃ i, i < p.S.length ∧ (fun i => !sOk (p.S.getD i s0)) i = true) → ∀ (r j : Int), (0 : Int) ≤ r → Q (VRes.ret (VV.bool !decide (r ≥ (0 : Int)))))
 else Q (VRes.ret (VV.bool false)))) ∧ ((∃ i, i < p.D.length ∧ (fun i => !dOk (p.D.getD i (0 : Int))) i = true) → ∀ (r j : Int), (0 : Int) ≤ r → bif !decide (r ≥ (0 : Int)) then
 (p.T.length ≤ 100 ∧ p.D.length ≤ 100) ∧ FitP 0 (VH.mk 4 (nsI.zip (BI p c1 c2 c3))) (dsI.zip ((fun r i => VI p.T.length c2 1 (VV.func (54 : FuncId) [] [VV.ptr (VA.own 3 0)]) r i) (0 : Int) (0 : Int))) (VH.mk 4 (nsI.zip (BI p c1 c2 c3))) (dsI.zip ((fun r i => VI p.T.length c2 1 (VV.func (54 : FuncId) [] [VV.ptr (VA.own 3 0)]) r i) (0 : Int) (0 : Int))) ∧ ((∀ (i : Nat), i < p.T.length → (fun i => !tOk p (p.T.getD i t0)) i = false) → p.S.length ≤ 100 ∧ FitP 0 (VH.mk 4 (nsI.zip (BI p c1 c2 c3))) (dsI.zip ((fun r i => VI p.S.length c3 2 (VV.func (55 : FuncId) [] []) r i) (0 : Int) (0 : Int))) (VH.mk 4 (nsI.zip (BI p c1 c2 c3))) (dsI.zip ((fun r i => VI p.S.length c3 2 (VV.func (55 : FuncId) [] []) r i) (0 : Int) (0 : Int))) ∧ ((∀ (i : Nat), i < p.S.length → (fun i => !sOk (p.S.getD i s0)) i = false) → Q (VRes.ret (VV.bool !decide ((-1 : Int) ≥ (0 : Int))))) ∧ ((∃ i, i < p.S.length ∧ (fun i => !sOk (p.S.getD i s0)) i = true) → ∀ (r j : Int), (0 : Int) ≤ r → Q (VRes.ret (VV.bool !decide (r ≥ (0 : Int)))))) ∧ ((∃ i, i < p.T.length ∧ (fun i => !tOk p (p.T.getD i t0)) i = true) → ∀ (r j : Int), (0 : Int) ≤ r → bif !decide (r ≥ (0 : Int)) then
 p.S.length ≤ 100 ∧ FitP 0 (VH.mk 4 (nsI.zip (BI p c1 c2 c3))) (dsI.zip ((fun r i => VI p.S.length c3 2 (VV.func (55 : FuncId) [] []) r i) (0 : Int) (0 : Int))) (VH.mk 4 (nsI.zip (BI p c1 c2 c3))) (dsI.zip ((fun r i => VI p.S.length c3 2 (VV.func (55 : FuncId) [] []) r i) (0 : Int) (0 : Int))) ∧ ((∀ (i : Nat), i < p.S.length → (fun i => !sOk (p.S.getD i s0)) i = false) → Q (VRes.ret (VV.bool !decide ((-1 : Int) ≥ (0 : Int))))) ∧ ((∃ i, i < p.S.length ∧ (fun i => !sOk (p.S.getD i s0)) i = true) → ∀ (r j : Int), (0 : Int) ≤ r → Q (VRes.ret (VV.bool !decide (r ≥ (0 : Int)))))
 else Q (VRes.ret (VV.bool false)))
 else Q (VRes.ret (VV.bool false)))) := by kernel_rfl


end Go.Sx.Nos

/- nose: a panel, wherever its lists lie. -/

namespace Go.Sx.Nos
open Go Go.Sx Go.Proofs
set_option maxRecDepth 100000

theorem callL3_good {a b c : FuncId} (h1 : Nat.beq b a = false) (h2 : Nat.beq c a = false) (h3 : Nat.beq c b = false) {la lb lc : List (Nat × LT)} (ha : LoopsOk Try.prog a la) (hb : LoopsOk Try.prog b lb) (hc : LoopsOk Try.prog c lc) {sp : FuncId → Option Spec1} (hsp : ∀ f S, sp f = some S → SpOk Try.prog f S) {un : Nat} (m : Nat) : Good Try.prog (callN Try.prog sp (at3 a b c la lb lc) un m) := by
  refine callN_good hmix hsp (fun x fn cd hf hcd id T hT bl hbl => ?_) m
  unfold at3 at hT
  cases hx : Nat.beq x a with
  | true =>
    rw [hx] at hT
    have := Nat.eq_of_beq_eq_true hx
    subst this
    exact loops_use ha hf cd hcd id T hT bl hbl
  | false =>
    rw [hx] at hT
    cases hx2 : Nat.beq x b with
    | true =>
      rw [hx2] at hT
      have := Nat.eq_of_beq_eq_true hx2
      subst this
      exact loops_use hb hf cd hcd id T hT bl hbl
    | false =>
      rw [hx2] at hT
      cases hx3 : Nat.beq x c with
      | true =>
        rw [hx3] at hT
        have := Nat.eq_of_beq_eq_true hx3
        subst this
        exact loops_use hc hf cd hcd id T hT bl hbl
      | false => rw [hx3] at hT; cases hT

/-- Is a panel valid? -/
def panB (p : Pn) : Bool := decide (p.D.length ≤ 8) && (decide (p.T.length ≤ 48) && (decide (p.S.length ≤ 16) && (p.D.all dOk && (p.T.all (tOk p) && p.S.all sOk))))

theorem all_of {α : Type} {l : List α} {q : α → Bool} {d : α} (h : ∀ i, i < l.length → (!q (l.getD i d)) = false) : l.all q = true := by
  rw [List.all_eq_true]
  intro x hx
  obtain ⟨i, hi, rfl⟩ := List.mem_iff_getElem.1 hx
  have := h i hi
  rw [List.getD_eq_getElem?_getD, List.getElem?_eq_getElem hi] at this
  simpa using this

theorem all_no {α : Type} {l : List α} {q : α → Bool} {d : α} (h : ∃ i, i < l.length ∧ (!q (l.getD i d)) = true) : l.all q = false := by
  obtain ⟨i, hi, h⟩ := h
  rw [List.getD_eq_getElem?_getD, List.getElem?_eq_getElem hi] at h
  simp only [Option.getD_some, Bool.not_eq_true'] at h
  rw [List.all_eq_false]
  exact ⟨l[i], List.getElem_mem hi, by rw [h]; decide⟩

theorem gL_ok {c : Prop} {T : LT} {pl : Bool} {cd : Code} {n : Nat} (h : c → LSound Try.prog pl cd n T) : LSound Try.prog pl cd n (gL c T) := fun lock t h' K hK => h hK.1 lock t h' K hK.2

theorem pan_v (p : Pn) (c1 c2 c3 : Nat) : ∃ h', CallsV Try.prog 40 [.agg (pnV p c1 c2 c3)] (pnH p) (.ret (.bool (panB p))) h' := by
  obtain ⟨r, h', hQ, hc⟩ := of_callN (callL3_good (a := 65) (b := 66) (c := 67) (by decide) (by decide) (by decide)
        (lo_one (by kernel_rfl) (gL_ok fun hn => L52_ok (p := p) (c1 := c1) (c2 := c2) (c3 := c3) hn)) (lo_one (by kernel_rfl) (gL_ok fun (hn : p.T.length ≤ 100 ∧ p.D.length ≤ 100) => L54_ok (p := p) (c1 := c1) (c2 := c2) (c3 := c3) hn.1 hn.2)) (lo_one (by kernel_rfl) (gL_ok fun hn => L55_ok (p := p) (c1 := c1) (c2 := c2) (c3 := c3) hn))
        (sp := noSpec) (fun _ _ h => absurd h (by simp [noSpec])) (un := 10) 20) (f := 40) (args := [.agg (pnV p c1 c2 c3)]) (h := pnH p) (K := fun r _ => r = .ret (.bool (panB p)))
    (by
      refine cast (f40_ev p c1 c2 c3 (fun r => r = .ret (.bool (panB p)))).symm ?_
      unfold panB
      refine cond_d (fun h => by rw [decide_eq_false (by omega)]; rfl) (fun s1 => ?_)
      rw [decide_eq_true (by omega : p.D.length ≤ 8)]
      refine cond_d (fun h => by rw [decide_eq_false (by omega)]; rfl) (fun s2 => ?_)
      rw [decide_eq_true (by omega : p.T.length ≤ 48)]
      refine cond_d (fun h => by rw [decide_eq_false (by omega)]; rfl) (fun s3 => ?_)
      rw [decide_eq_true (by omega : p.S.length ≤ 16)]
      simp only [Bool.true_and]
      refine ⟨by omega, fitP_self rfl, fun a1 => ?_, fun a1 r j hr => ?_⟩
      · rw [all_of a1]
        refine ⟨⟨by omega, by omega⟩, fitP_self rfl, fun a2 => ?_, fun a2 r j hr => ?_⟩
        · rw [all_of a2]
          refine ⟨by omega, fitP_self rfl, fun a3 => ?_, fun a3 r j hr => ?_⟩
          · rw [all_of a3]; rfl
          · rw [all_no a3, decide_eq_true (show r ≥ 0 from hr)]; rfl
        · rw [all_no a2, decide_eq_true (show r ≥ 0 from hr)]; rfl
      · rw [all_no a1, decide_eq_true (show r ≥ 0 from hr)]; rfl)
  subst hQ
  exact ⟨h', hc⟩

/-- A panel's lists. -/
def pnIs (h : VH) (p : Pn) (d t s : VV) : Prop := isList h d p.D.length 1 (dG p.D) ∧ isList h t p.T.length 5 (tG p.T) ∧ isList h s p.S.length 3 (sG p.S)

def pnA (p : Pn) : List Ag := [.l p.D.length 1 (dG p.D), .l p.T.length 5 (tG p.T), .l p.S.length 3 (sG p.S)]

theorem pnH_eq (p : Pn) : agH (pnA p) = pnH p := rfl

theorem pure_dG (D : List Int) (j : Nat) : pureL (dG D j) = true := rfl
theorem pure_tG (T : List Ts) (j : Nat) : pureL (tG T j) = true := rfl
theorem pure_sG (S : List Sd) (j : Nat) : pureL (sG S j) = true := rfl

theorem pnIs_ag {h : VH} {p : Pn} {d t s : VV} (hp : pnIs h p d t s) : agIs h (pnA p) [d, t, s] :=
  ⟨d, _, rfl, hp.1, fun _ _ => rfl, t, _, rfl, hp.2.1, fun _ _ => rfl, s, _, rfl, hp.2.2, fun _ _ => rfl, rfl⟩

theorem pnA_args (p : Pn) : ∀ cs : List Nat, ∃ c1 c2 c3, agArgs 0 (pnA p) cs = pnV p c1 c2 c3
  | [] => ⟨0, 0, 0, rfl⟩
  | [c1] => ⟨c1, 0, 0, rfl⟩
  | [c1, c2] => ⟨c1, c2, 0, rfl⟩
  | c1 :: c2 :: c3 :: _ => ⟨c1, c2, c3, rfl⟩

/-- A contract over a panel and plain values, with a plain result, wherever the panel's lists lie. -/
theorem calls_pn {f : FuncId} {p : Pn} {pl : List VV} {d t s : VV} {h : VH} {r : VRes}
    (hs : ∀ c1 c2 c3, ∃ h', CallsV Try.prog f (.agg (pnV p c1 c2 c3) :: pl) (pnH p) r h') (hr : r.pure = true) (hpl : pureL pl = true) (hp : pnIs h p d t s) : CallsV Try.prog f (.agg [d, t, s] :: pl) h r h := by
  refine calls_viewA (hm := agH (pnA p)) (fun n => ?_) hr ?_
  · rcases agH_at (pnA p) n with ⟨s, ok, g, h1, _⟩ | h1 | h1
    · exact .inl ⟨s, ok, g, h1⟩
    · exact .inr (.inl h1)
    · exact .inr (.inr h1)
  · intro B R w xs em hx
    obtain ⟨y, ys, ⟨us, hus, rfl⟩, hys, rfl⟩ := hx
    obtain ⟨cs, qs, h1, h2⟩ := ag_view em (pnA p) 0 [d, t, s] us (pnIs_ag hp) hus
    obtain ⟨c1, c2, c3, hcs⟩ := pnA_args p cs
    obtain ⟨hm', hc⟩ := hs c1 c2 c3
    refine ⟨fun n _ => qs n, fun n => agSt 0 (pnA p) n, _, hm', hc, ⟨fun n s ok g hn => ?_⟩, ?_⟩
    · rcases agH_at (pnA p) n with ⟨s', ok', g', h3, h4⟩ | h3 | h3
      · rw [h3] at hn
        cases hn
        obtain ⟨g1, g2⟩ := h1 n _ _ _ h4
        refine ⟨g1, fun ix i hi => ?_⟩
        obtain ⟨k1, k2, k3, k4⟩ := g2 ix i hi
        exact ⟨k1, k2, k3, k4 _⟩
      · rw [h3] at hn; cases hn
      · rw [h3] at hn; cases hn
    · refine ⟨_, ys, ⟨us, ?_, rfl⟩, pure_L _ _ hpl hys, rfl⟩
      rw [← hcs]
      exact h2 _ fun m _ => rfl

/-- A function of a panel and numbers that returns a plain value. -/
def pnT (f : FuncId) (n : Nat) (F : Pn → List Int → Option VV) : FuncId × Spec1 := (f, fun _ args h K => match args with
  | .agg [d, t, s] :: r => numsE r fun ns => bif Nat.beq ns.length n then ∃ p : Pn, pnIs h p d t s ∧ ∃ v, F p ns = some v ∧ K (.ret v) h else False
  | _ => False)

theorem pure_ints : ∀ ns : List Int, pureL (ns.map (VV.int .i64)) = true
  | [] => rfl
  | n :: ns => by simp [pureL, VV.pure, pure_ints ns]

theorem pnT_ok {f : FuncId} {n : Nat} {F : Pn → List Int → Option VV} (hf : ∀ (p : Pn) (ns : List Int) (v : VV), ns.length = n → F p ns = some v → v.pure = true ∧ ∀ c1 c2 c3, ∃ h', CallsV Try.prog f (.agg (pnV p c1 c2 c3) :: ns.map (VV.int .i64)) (pnH p) (.ret v) h') : SpOk Try.prog (pnT f n F).1 (pnT f n F).2 := by
  intro lock args h K hK
  simp only [pnT] at hK
  split at hK
  · rename_i d t s r
    obtain ⟨ns, hK2, rfl⟩ := numsE_sound hK
    obtain ⟨hn, p, hp, v, hv, hK⟩ := cond_f hK2
    obtain ⟨h1, h2⟩ := hf p ns v (Nat.eq_of_beq_eq_true hn) hv
    exact ⟨_, h, hK, lockP_refl _ _, calls_pn h2 h1 (pure_ints ns) hp⟩
  · exact hK.elim

/-- Is a panel valid? As a row. -/
def panT : FuncId × Spec1 := pnT 40 0 fun p _ => some (.bool (panB p))

theorem panT_ok : SpOk Try.prog panT.1 panT.2 := pnT_ok fun p ns v hn hv => by
  cases hv
  obtain rfl : ns = [] := List.length_eq_zero_iff.1 hn
  exact ⟨rfl, fun c1 c2 c3 => pan_v p c1 c2 c3⟩
end Go.Sx.Nos
