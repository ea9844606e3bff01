/- stream: Np1 Np2 Np3 Np4, in one text. -/
import Derived.Test.YtnfkbbcbehnnkaaNO
/- nose: a story, evaluated. -/

namespace Go.Sx.Nos
open Go Go.Sx Go.Proofs
set_option maxRecDepth 1000000

def vL (s : Nat → Int) : List Int := [s 0, s 1, s 2, s 3, s 4, s 5, s 6, s 7, s 8, s 9, s 10, s 11, s 12, s 13, s 14, s 15, s 16, s 17, s 18, s 19, s 20, s 21, s 22, s 23]
def bL (s : Nat → Int) : List Int := [s 16, s 17, s 18, s 19, s 20, s 21, s 22, s 23]
def wL (s : Nat → Int) : List Int := [s 24, s 25, s 26, s 27, s 28, s 29, s 30, s 31]
/-- A story's cells. -/
def stC (s : Nat → Int) : List VV := [.int .i16 (s 0), .int .i16 (s 1), .int .i16 (s 2), .int .i16 (s 3), .int .i16 (s 4), .int .i16 (s 5), .int .i16 (s 6), .int .i16 (s 7), .int .i16 (s 8), .int .i16 (s 9), .int .i16 (s 10), .int .i16 (s 11), .int .i16 (s 12), .int .i16 (s 13), .int .i16 (s 14), .int .i16 (s 15), .int .i16 (s 16), .int .i16 (s 17), .int .i16 (s 18), .int .i16 (s 19), .int .i16 (s 20), .int .i16 (s 21), .int .i16 (s 22), .int .i16 (s 23), .int .i8 (s 24), .int .i8 (s 25), .int .i8 (s 26), .int .i8 (s 27), .int .i8 (s 28), .int .i8 (s 29), .int .i8 (s 30), .int .i8 (s 31)]
theorem bias_ev (s : Nat → Int) (j t d : Int) (Q : VRes → Prop) : callN Try.prog noSpec noL 10 20 0 (.fn 34) [.agg (stC s), I j, I t, I d] ⟨0, []⟩ (fun r _ => Q r) =
  (bif decide ((0 : Int) ≤ j ∧ j < (↑8 : Int)) then
 bif decide (j.toNat * (1) < (wL s).length) then
 bif inK IntKind.i64 ((wL s).getD (j.toNat * (1)) (0 : Int)) then
 bif decide ((0 : Int) ≤ j ∧ j < (↑8 : Int)) then
 bif decide (j.toNat * (1) < (bL s).length) then
 bif inK IntKind.i64 ((bL s).getD (j.toNat * (1)) (0 : Int)) then
 bif inK IntKind.i64 ((0 : Int) - d) then
 bif inK IntKind.i64 (max ((0 : Int) - d) (min d ((wL s).getD (j.toNat * (1)) (0 : Int))) * t) then
 bif inK IntKind.i64 ((bL s).getD (j.toNat * (1)) (0 : Int) + max ((0 : Int) - d) (min d ((wL s).getD (j.toNat * (1)) (0 : Int))) * t) then
 Q (VRes.ret (I ((bL s).getD (j.toNat * (1)) (0 : Int) + max ((0 : Int) - d) (min d ((wL s).getD (j.toNat * (1)) (0 : Int))) * t)))
 else False
 else False
 else False
 else False
 else False
 else False
 else False
 else False
 else False) := by kernel_rfl

theorem has_ev (a b n : Int) (Q : Bool → Prop) : callN Try.prog noSpec noL 10 20 0 (.fn 24) [.agg [I a, I b], I n] ⟨0, []⟩ (boQ Q) =
  (bif decide (a ≤ n) then
 Q (decide (n ≤ b))
 else Q false) := by kernel_rfl


end Go.Sx.Nos

/- nose: a story's biases. -/

namespace Go.Sx.Nos
open Go Go.Sx Go.Proofs
set_option maxRecDepth 1000000

theorem vL_eq (s : Nat → Int) : vL s = (List.range 24).map s := by kernel_rfl
theorem bL_eq (s : Nat → Int) : bL s = (List.range 8).map fun i => s (16 + i) := by kernel_rfl
theorem wL_eq (s : Nat → Int) : wL s = (List.range 8).map fun i => s (24 + i) := by kernel_rfl

/-- A story's numbers are small. -/
def SOk (s : Nat → Int) : Prop := ∀ i, -32768 ≤ s i ∧ s i ≤ 32767

section
variable {s : Nat → Int}
theorem bd_getD {l : List Int} (h : ∀ x ∈ l, -32768 ≤ x ∧ x ≤ 32767) (i : Nat) : -32768 ≤ l.getD i 0 ∧ l.getD i 0 ≤ 32767 := by
  rw [List.getD_eq_getElem?_getD]
  by_cases hi : i < l.length
  · rw [List.getElem?_eq_getElem hi]
    exact h _ (List.getElem_mem hi)
  · rw [List.getElem?_eq_none (by omega)]
    exact ⟨by decide, by decide⟩

theorem v_bd (h : SOk s) (i : Nat) : -32768 ≤ (vL s).getD i 0 ∧ (vL s).getD i 0 ≤ 32767 :=
  bd_getD (fun x hx => by rw [vL_eq] at hx; obtain ⟨k, _, rfl⟩ := List.mem_map.1 hx; exact h _) i
theorem b_bd (h : SOk s) (i : Nat) : -32768 ≤ (bL s).getD i 0 ∧ (bL s).getD i 0 ≤ 32767 :=
  bd_getD (fun x hx => by rw [bL_eq] at hx; obtain ⟨k, _, rfl⟩ := List.mem_map.1 hx; exact h _) i
theorem w_bd (h : SOk s) (i : Nat) : -32768 ≤ (wL s).getD i 0 ∧ (wL s).getD i 0 ≤ 32767 :=
  bd_getD (fun x hx => by rw [wL_eq] at hx; obtain ⟨k, _, rfl⟩ := List.mem_map.1 hx; exact h _) i

/-- How a judge's bias goes on; the bias. -/
def wayV (s : Nat → Int) (j d : Int) : Int := max (0 - d) (min d ((wL s).getD j.toNat 0))
def biasV (s : Nat → Int) (j t d : Int) : Int := (bL s).getD j.toNat 0 + wayV s j d * t

theorem way_bd {j d : Int} (hd : 0 ≤ d) : -d ≤ wayV s j d ∧ wayV s j d ≤ d := by
  unfold wayV
  omega

theorem way_mul {j d t : Int} (hd : 0 ≤ d ∧ d ≤ 1000) (ht : 0 ≤ t ∧ t ≤ 1000) : -1000000 ≤ wayV s j d * t ∧ wayV s j d * t ≤ 1000000 := by
  have h := way_bd (s := s) (j := j) hd.1
  generalize wayV s j d = w at h
  have h1 : w * t ≤ 1000 * t := Int.mul_le_mul_of_nonneg_right (by omega) ht.1
  have h2 : -1000 * t ≤ w * t := Int.mul_le_mul_of_nonneg_right (by omega) ht.1
  omega

theorem bias_bd (h : SOk s) {j d t : Int} (hd : 0 ≤ d ∧ d ≤ 1000) (ht : 0 ≤ t ∧ t ≤ 1000) : -1100000 ≤ biasV s j t d ∧ biasV s j t d ≤ 1100000 := by
  have h1 := way_mul (s := s) (j := j) hd ht
  have h2 := b_bd h j.toNat
  unfold biasV
  omega

/-- A bias drifts by at most so much. -/
theorem bias_drift {j d t u : Int} (hd : 0 ≤ d) (h : t ≤ u) : biasV s j t d - biasV s j u d ≤ d * (u - t) ∧ biasV s j u d - biasV s j t d ≤ d * (u - t) := by
  have hw := way_bd (s := s) (j := j) hd
  unfold biasV
  generalize wayV s j d = w at hw ⊢
  have e : w * (u - t) = w * u - w * t := Int.mul_sub ..
  have h1 : w * (u - t) ≤ d * (u - t) := Int.mul_le_mul_of_nonneg_right hw.2 (by omega)
  have h2 : -d * (u - t) ≤ w * (u - t) := Int.mul_le_mul_of_nonneg_right hw.1 (by omega)
  rw [Int.neg_mul] at h2
  omega
end

def biasC (s : Nat → Int) (j t d : Int) : Prop := SOk s ∧ (0 ≤ j ∧ j < 8) ∧ (0 ≤ t ∧ t ≤ 1000) ∧ (0 ≤ d ∧ d ≤ 1000)
def biasT : FuncId × Spec1 := (34, fun _ args h K => match args with
  | [.agg cs, .int .i64 j, .int .i64 t, .int .i64 d] => ∃ s : Nat → Int, cs = stC s ∧ biasC s j t d ∧ K (.ret (I (biasV s j t d))) h
  | _ => False)

theorem biasT_ok : SpOk Try.prog biasT.1 biasT.2 := by
  intro lock args h K hK
  simp only [biasT] at hK
  split at hK
  · rename_i cs j t d
    obtain ⟨s, rfl, ⟨hs, hj, ht, hd⟩, hK⟩ := hK
    refine ⟨_, h, hK, lockP_refl _ _, ?_⟩
    obtain ⟨r, h', rfl, hc⟩ := of_callN good0 (f := 34) (args := [.agg (stC s), I j, I t, I d]) (h := ⟨0, []⟩) (K := fun r _ => r = .ret (I (biasV s j t d)))
      (by
        refine cast (bias_ev s j t d _).symm ?_
        rw [Nat.mul_one]
        have h1 := b_bd hs j.toNat
        have h2 := w_bd hs j.toNat
        have h3 := way_mul (s := s) (j := j) hd ht
        have h4 := bias_bd hs (j := j) hd ht
        have l1 : (wL s).length = 8 := rfl
        have l2 : (bL s).length = 8 := rfl
        have e : max ((0 : Int) - d) (min d ((wL s).getD j.toNat 0)) = wayV s j d := rfl
        rw [e]
        have e2 : (bL s).getD j.toNat 0 + wayV s j d * t = biasV s j t d := rfl
        rw [e2]
        exact cond_dk ⟨by omega, by omega⟩ (cond_dk (by omega) (cond_r (by omega) (cond_dk ⟨by omega, by omega⟩ (cond_dk (by omega) (cond_r (by omega) (cond_r (by omega) (cond_r (by omega) (cond_r (by omega) rfl)))))))))
    exact calls_lift0 hc rfl rfl
  · exact hK.elim

def hasB (a b n : Int) : Bool := decide (a ≤ n ∧ n ≤ b)
def hasT : FuncId × Spec1 := (24, fun _ args h K => match args with
  | [.agg [.int .i64 a, .int .i64 b], .int .i64 n] => K (.ret (.bool (hasB a b n))) h
  | _ => False)

theorem hasT_ok : SpOk Try.prog hasT.1 hasT.2 := by
  intro lock args h K hK
  simp only [hasT] at hK
  split at hK
  · rename_i a b n
    refine ⟨_, h, hK, lockP_refl _ _, ?_⟩
    refine by_bo good0 (f := 24) (b := hasB a b n) ?_ rfl h
    refine cast (has_ev a b n _).symm ?_
    refine cond_d (fun h1 => ?_) (fun h1 => ?_)
    · unfold hasB
      rw [decide_eq_decide]
      exact ⟨fun h => ⟨h1, h⟩, fun h => h.2⟩
    · exact (decide_eq_false (fun h => h1 h.1)).symm
  · exact hK.elim
end Go.Sx.Nos

/- nose: what is told, evaluated. -/

namespace Go.Sx.Nos
open Go Go.Sx Go.Proofs
set_option maxRecDepth 1000000

/-- How far scores are off. -/
def arB (B : List Int) : VB := .arr 1 (fun ix i => ix = [] ∧ 0 ≤ i ∧ i < B.length) fun _ i => [.int .u16 (B.getD i.toNat 0)]
abbrev stB (s : Nat → Int) : VB := .cells (stC s) 61
def drI (p : Pn) (i : Int) : Int := p.D.getD ((0 : Int) + (getI p i).j).toNat 0
def ofI (p : Pn) (B : List Int) (i : Int) : Int := remZ (B.getD ((0 : Int) + remZ i B.length).toNat 0) (2 * (getI p i).o + 1)
def vaI (p : Pn) (s : Nat → Int) (i : Int) : Int := (vL s).getD ((getI p i).s.toNat * 1) 0
def getJ (p : Pn) (i : Int) : Sd := p.S.getD ((0 : Int) + i).toNat s0
def vaJ (p : Pn) (s : Nat → Int) (i : Int) : Int := (vL s).getD ((getJ p i).s.toNat * 1) 0
def ofJ (B : List Int) (i : Int) : Int := remZ (B.getD ((0 : Int) + remZ i B.length).toNat 0) 50
def dsT0 : List Nat := [31, 30, 29, 2, 3, 4, 6, 7, 8]
def VT0 (p : Pn) (c2 L c4 : Nat) (i : Int) : List VV := [I i, I p.T.length, .slice (.el 1 [] 0 0) p.T.length c2, .slice (.el 3 [] 0 0) L c4, .ptr (.own 6 0), .ptr (.own 7 0), .ptr (.own 8 0), .bool false, .ptr (.own 9 0)]
def nsT0 : List Nat := [0, 1, 2, 3, 4, 5, 6, 7, 8, 9, 10]
abbrev pC (p : Pn) (c1 c2 c3 : Nat) : List VV := [.slice (.el 0 [] 0 0) p.D.length c1, .slice (.el 1 [] 0 0) p.T.length c2, .slice (.el 2 [] 0 0) p.S.length c3]
/-- The blocks: r is the result's, q the panel's that is told. -/
def BTa (p : Pn) (c1 c2 c3 : Nat) (s : Nat → Int) (B : List Int) (r q : List VV) : List VB := [arD p, arT p, arS p, arB B, pnB p c1 c2 c3, stB s, pnB p c1 c2 c3, stB s, .cells r 26, .cells q 26]
def BT0 (p : Pn) (c1 c2 c3 : Nat) (s : Nat → Int) (B : List Int) (r : List VV) (k : Nat) (G : Nat → List VV) : List VB := BTa p c1 c2 c3 s B r [.slice (.el 0 [] 0 0) p.D.length c1, .sl 10 k, .nils] ++ [.vec k G 5 32]
theorem td0_ev (p : Pn) (c1 c2 c3 c4 : Nat) (s : Nat → Int) (B : List Int) (i : Int) (k : Nat) (G : Nat → List VV) (X : VEx → List VV → List VB → Prop) : codeE Try.prog (callN Try.prog (tabS [biasT]) noL 10 20) (fun _ => none) true 10 129 0 (loopB 0 (bodyOf Try.prog 33)) (dsT0.zip (VT0 p c2 B.length c4 i)) ⟨11, nsT0.zip (BT0 p c1 c2 c3 s B [.nils, .nils, .nils] k G)⟩ (obs 11 dsT0 nsT0 X) =
  (bif decide (i < (↑p.T.length : Int)) then
 bif decide ((0 : Int) ≤ i ∧ i < (↑p.T.length : Int)) then
 (([] : List Int) = [] ∧ (0 : Int) ≤ (0 : Int) + i ∧ (0 : Int) + i < (↑p.T.length : Int)) ∧ bif decide ((0 : Int) ≤ (getI p i).s ∧ (getI p i).s < (↑16 : Int)) then
 bif decide ((getI p i).s.toNat * (1) < (vL s).length) then
 bif inK IntKind.i64 (vaI p s i) then
 bif decide ((0 : Int) ≤ (getI p i).j ∧ (getI p i).j < (↑p.D.length : Int)) then
 (([] : List Int) = [] ∧ (0 : Int) ≤ (0 : Int) + (getI p i).j ∧ (0 : Int) + (getI p i).j < (↑p.D.length : Int)) ∧ ∃ s_1, (stC s) = stC s_1 ∧ biasC s_1 (getI p i).j (getI p i).p (drI p i) ∧ bif inK IntKind.i64 (vaI p s i + biasV s_1 (getI p i).j (getI p i).p (drI p i)) then
 bif decide ((↑B.length : Int) = (0 : Int)) then
 False
 else bif decide ((0 : Int) ≤ remZ i (↑B.length : Int) ∧ remZ i (↑B.length : Int) < (↑B.length : Int)) then
 (([] : List Int) = [] ∧ (0 : Int) ≤ (0 : Int) + remZ i (↑B.length : Int) ∧ (0 : Int) + remZ i (↑B.length : Int) < (↑B.length : Int)) ∧ bif inK IntKind.i64 (B.getD ((0 : Int) + remZ i (↑B.length : Int)).toNat (0 : Int)) then
 bif inK IntKind.i64 ((2 : Int) * (getI p i).o) then
 bif inK IntKind.i64 ((2 : Int) * (getI p i).o + (1 : Int)) then
 bif decide ((2 : Int) * (getI p i).o + (1 : Int) = (0 : Int)) then
 False
 else bif inK IntKind.i64 (vaI p s i + biasV s_1 (getI p i).j (getI p i).p (drI p i) + ofI p B i) then
 bif inK IntKind.i64 (vaI p s i + biasV s_1 (getI p i).j (getI p i).p (drI p i) + ofI p B i - (getI p i).o) then
 bif decide (vaI p s i + biasV s_1 (getI p i).j (getI p i).p (drI p i) + ofI p B i - (getI p i).o < (-100000 : Int)) then
 X VEx.ret [I i, I (↑p.T.length : Int), VV.slice (VA.el 1 [] (0 : Int) 0) p.T.length c2, VV.slice (VA.el 3 [] (0 : Int) 0) B.length c4, VV.ptr (VA.own 6 0), VV.ptr (VA.own 7 0), VV.ptr (VA.own 8 0), VV.bool false, VV.ptr (VA.own 9 0)] [arD p, arT p, arS p, arB B, pnB p c1 c2 c3, VB.cells (stC s) (61 : TypeId), pnB p c1 c2 c3, VB.cells (stC s) (61 : TypeId), pnB p c1 c2 c3, VB.cells [VV.slice (VA.el 0 [] (0 : Int) 0) p.D.length c1, VV.sl 10 k, VV.nils] (26 : TypeId), VB.vec k G 5 (32 : TypeId)]
 else bif decide (vaI p s i + biasV s_1 (getI p i).j (getI p i).p (drI p i) + ofI p B i - (getI p i).o > (100000 : Int)) then
 X VEx.ret [I i, I (↑p.T.length : Int), VV.slice (VA.el 1 [] (0 : Int) 0) p.T.length c2, VV.slice (VA.el 3 [] (0 : Int) 0) B.length c4, VV.ptr (VA.own 6 0), VV.ptr (VA.own 7 0), VV.ptr (VA.own 8 0), VV.bool false, VV.ptr (VA.own 9 0)] [arD p, arT p, arS p, arB B, pnB p c1 c2 c3, VB.cells (stC s) (61 : TypeId), pnB p c1 c2 c3, VB.cells (stC s) (61 : TypeId), pnB p c1 c2 c3, VB.cells [VV.slice (VA.el 0 [] (0 : Int) 0) p.D.length c1, VV.sl 10 k, VV.nils] (26 : TypeId), VB.vec k G 5 (32 : TypeId)]
 else bif k.beq k then
 bif roomB (k + 1) (40) then
 bif inK IntKind.i64 (i + (1 : Int)) then
 X VEx.normal [I (i + (1 : Int)), I (↑p.T.length : Int), VV.slice (VA.el 1 [] (0 : Int) 0) p.T.length c2, VV.slice (VA.el 3 [] (0 : Int) 0) B.length c4, VV.ptr (VA.own 6 0), VV.ptr (VA.own 7 0), VV.ptr (VA.own 8 0), VV.bool false, VV.ptr (VA.own 9 0)] [arD p, arT p, arS p, arB B, pnB p c1 c2 c3, VB.cells (stC s) (61 : TypeId), pnB p c1 c2 c3, VB.cells (stC s) (61 : TypeId), VB.cells [VV.nils, VV.nils, VV.nils] (26 : TypeId), VB.cells [VV.slice (VA.el 0 [] (0 : Int) 0) p.D.length c1, VV.sl 10 (k + 1), VV.nils] (26 : TypeId), VB.vec (k + 1) (catG k G fun j => List.take (5) (List.drop (j * (5)) [I (getI p i).j, I (getI p i).s, I (getI p i).p, I (vaI p s i + biasV s_1 (getI p i).j (getI p i).p (drI p i) + ofI p B i - (getI p i).o), I (getI p i).o])) (5) 32]
 else False
 else False
 else False
 else False
 else False
 else False
 else False
 else False
 else False
 else False
 else False
 else False
 else False
 else False
 else False
 else X (VEx.exit 0) [I i, I (↑p.T.length : Int), VV.slice (VA.el 1 [] (0 : Int) 0) p.T.length c2, VV.slice (VA.el 3 [] (0 : Int) 0) B.length c4, VV.ptr (VA.own 6 0), VV.ptr (VA.own 7 0), VV.ptr (VA.own 8 0), VV.bool false, VV.ptr (VA.own 9 0)] [arD p, arT p, arS p, arB B, pnB p c1 c2 c3, VB.cells (stC s) (61 : TypeId), pnB p c1 c2 c3, VB.cells (stC s) (61 : TypeId), VB.cells [VV.nils, VV.nils, VV.nils] (26 : TypeId), VB.cells [VV.slice (VA.el 0 [] (0 : Int) 0) p.D.length c1, VV.sl 10 k, VV.nils] (26 : TypeId), VB.vec k G 5 (32 : TypeId)]) := by kernel_rfl

def dsT2 : List Nat := [91, 90, 89, 2, 4, 6, 8]
def VT2 (p : Pn) (c3 L c4 : Nat) (i : Int) : List VV := [I i, I p.S.length, .slice (.el 2 [] 0 0) p.S.length c3, .slice (.el 3 [] 0 0) L c4, .ptr (.own 7 0), .ptr (.own 8 0), .ptr (.own 9 0)]
def nsT2 : List Nat := [0, 1, 2, 3, 4, 5, 6, 7, 8, 9, 10, 11]
def BT2 (p : Pn) (c1 c2 c3 : Nat) (s : Nat → Int) (B : List Int) (n k : Nat) (G1 G : Nat → List VV) : List VB := BTa p c1 c2 c3 s B [.nils, .nils, .nils] [.slice (.el 0 [] 0 0) p.D.length c1, .sl 10 n, .sl 11 k] ++ [.vec n G1 5 32, .vec k G 3 36]
theorem td2_ev (p : Pn) (c1 c2 c3 c4 : Nat) (s : Nat → Int) (B : List Int) (i : Int) (n k : Nat) (G1 G : Nat → List VV) (X : VEx → List VV → List VB → Prop) : codeE Try.prog (callN Try.prog noSpec noL 10 20) (fun _ => none) true 10 129 0 (loopB 2 (bodyOf Try.prog 33)) (dsT2.zip (VT2 p c3 B.length c4 i)) ⟨12, nsT2.zip (BT2 p c1 c2 c3 s B n k G1 G)⟩ (obs 12 dsT2 nsT2 X) =
  (bif decide (i < (↑p.S.length : Int)) then
 bif decide ((0 : Int) ≤ i ∧ i < (↑p.S.length : Int)) then
 (([] : List Int) = [] ∧ (0 : Int) ≤ (0 : Int) + i ∧ (0 : Int) + i < (↑p.S.length : Int)) ∧ bif decide ((↑B.length : Int) = (0 : Int)) then
 False
 else bif decide ((0 : Int) ≤ remZ i (↑B.length : Int) ∧ remZ i (↑B.length : Int) < (↑B.length : Int)) then
 (([] : List Int) = [] ∧ (0 : Int) ≤ (0 : Int) + remZ i (↑B.length : Int) ∧ (0 : Int) + remZ i (↑B.length : Int) < (↑B.length : Int)) ∧ bif inK IntKind.i64 (B.getD ((0 : Int) + remZ i (↑B.length : Int)).toNat (0 : Int)) then
 bif decide ((0 : Int) ≤ (getJ p i).s ∧ (getJ p i).s < (↑16 : Int)) then
 bif decide ((getJ p i).s.toNat * (1) < (vL s).length) then
 bif inK IntKind.i64 (vaJ p s i) then
 bif inK IntKind.i64 (vaJ p s i - ofJ B i) then
 bif inK IntKind.i64 (quoZ (ofJ B i) (2 : Int)) then
 bif inK IntKind.i64 (vaJ p s i + quoZ (ofJ B i) (2 : Int)) then
 bif k.beq k then
 bif roomB (k + 1) (24) then
 bif inK IntKind.i64 (i + (1 : Int)) then
 X VEx.normal [I (i + (1 : Int)), I (↑p.S.length : Int), VV.slice (VA.el 2 [] (0 : Int) 0) p.S.length c3, VV.slice (VA.el 3 [] (0 : Int) 0) B.length c4, VV.ptr (VA.own 7 0), VV.ptr (VA.own 8 0), VV.ptr (VA.own 9 0)] [arD p, arT p, arS p, arB B, pnB p c1 c2 c3, VB.cells (stC s) (61 : TypeId), pnB p c1 c2 c3, VB.cells (stC s) (61 : TypeId), VB.cells [VV.nils, VV.nils, VV.nils] (26 : TypeId), VB.cells [VV.slice (VA.el 0 [] (0 : Int) 0) p.D.length c1, VV.sl 10 n, VV.sl 11 (k + 1)] (26 : TypeId), VB.vec n G1 5 (32 : TypeId), VB.vec (k + 1) (catG k G fun j => List.take (3) (List.drop (j * (3)) [I (getJ p i).s, I (vaJ p s i - ofJ B i), I (vaJ p s i + quoZ (ofJ B i) (2 : Int))])) (3) 36]
 else False
 else False
 else False
 else False
 else False
 else False
 else False
 else False
 else False
 else False
 else False
 else False
 else X (VEx.exit 2) [I i, I (↑p.S.length : Int), VV.slice (VA.el 2 [] (0 : Int) 0) p.S.length c3, VV.slice (VA.el 3 [] (0 : Int) 0) B.length c4, VV.ptr (VA.own 7 0), VV.ptr (VA.own 8 0), VV.ptr (VA.own 9 0)] [arD p, arT p, arS p, arB B, pnB p c1 c2 c3, VB.cells (stC s) (61 : TypeId), pnB p c1 c2 c3, VB.cells (stC s) (61 : TypeId), VB.cells [VV.nils, VV.nils, VV.nils] (26 : TypeId), VB.cells [VV.slice (VA.el 0 [] (0 : Int) 0) p.D.length c1, VV.sl 10 n, VV.sl 11 k] (26 : TypeId), VB.vec n G1 5 (32 : TypeId), VB.vec k G 3 (36 : TypeId)]) := by kernel_rfl


end Go.Sx.Nos

/- nose: the loops that tell a panel. -/

namespace Go.Sx.Nos
open Go Go.Sx Go.Proofs
set_option maxRecDepth 1000000

/-- A score that is told; the panel. -/
def scI (p : Pn) (s : Nat → Int) (B : List Int) (i : Int) : Int := vaI p s i + biasV s (getI p i).j (getI p i).p (drI p i) + ofI p B i - (getI p i).o
def scOk (p : Pn) (s : Nat → Int) (B : List Int) (i : Nat) : Prop := -100000 ≤ scI p s B i ∧ scI p s B i ≤ 100000
def okTo (p : Pn) (s : Nat → Int) (B : List Int) : Prop := ∀ i : Nat, i < p.T.length → scOk p s B i
def toTs (p : Pn) (s : Nat → Int) (B : List Int) (i : Nat) : Ts := ⟨(getI p i).j, (getI p i).s, (getI p i).p, scI p s B i, (getI p i).o⟩
def toSd (p : Pn) (s : Nat → Int) (B : List Int) (i : Nat) : Sd := ⟨(getJ p i).s, vaJ p s i - ofJ B i, vaJ p s i + quoZ (ofJ B i) 2⟩
def toT (p : Pn) (s : Nat → Int) (B : List Int) : List Ts := (List.range p.T.length).map (toTs p s B)
def toS (p : Pn) (s : Nat → Int) (B : List Int) : List Sd := (List.range p.S.length).map (toSd p s B)
def toP (p : Pn) (s : Nat → Int) (B : List Int) : Pn := ⟨p.D, toT p s B, toS p s B⟩
structure BOk (B : List Int) : Prop where
  pos : 0 < B.length
  bd : ∀ x ∈ B, 0 ≤ x ∧ x ≤ 65535

section
variable {p : Pn} {s : Nat → Int} {B : List Int} {c1 c2 c3 c4 : Nat}

theorem toT_get {k : Nat} (h : k < p.T.length) : tG (toT p s B) k = tsL (toTs p s B k) := by
  unfold tG toT
  rw [List.getD_eq_getElem?_getD, List.getElem?_map, List.getElem?_range h]
  rfl
theorem toS_get {k : Nat} (h : k < p.S.length) : sG (toS p s B) k = sdL (toSd p s B k) := by
  unfold sG toS
  rw [List.getD_eq_getElem?_getD, List.getElem?_map, List.getElem?_range h]
  rfl

theorem getD_in {α : Type} {l : List α} {d : α} {k : Nat} (h : k < l.length) : l.getD k d ∈ l := by
  rw [List.getD_eq_getElem?_getD, List.getElem?_eq_getElem h]
  exact List.getElem_mem h

theorem rem_k (hB : BOk B) (k : Nat) : 0 ≤ remZ (k : Int) B.length ∧ remZ (k : Int) B.length < (B.length : Int) := by
  have := hB.pos
  rw [remZ_nn (by omega)]
  exact ⟨Int.emod_nonneg _ (by omega), Int.emod_lt_of_pos _ (by omega)⟩

theorem by_k (hB : BOk B) (k : Nat) : 0 ≤ B.getD ((0 : Int) + remZ (k : Int) B.length).toNat 0 ∧ B.getD ((0 : Int) + remZ (k : Int) B.length).toNat 0 ≤ 65535 := by
  have := rem_k hB k
  exact hB.bd _ (getD_in (by omega))

structure ToldI (p : Pn) (s : Nat → Int) (B : List Int) (k : Nat) : Prop where
  s0 : 0 ≤ (getI p k).s ∧ (getI p k).s < 16
  j0 : 0 ≤ (getI p k).j ∧ (getI p k).j < (p.D.length : Int)
  va : -32768 ≤ vaI p s k ∧ vaI p s k ≤ 32767
  bi : biasC s (getI p k).j (getI p k).p (drI p k)
  bb : -1100000 ≤ biasV s (getI p k).j (getI p k).p (drI p k) ∧ biasV s (getI p k).j (getI p k).p (drI p k) ≤ 1100000
  o0 : 0 ≤ (getI p k).o ∧ (getI p k).o ≤ 10000
  of : 0 ≤ ofI p B k ∧ ofI p B k ≤ 2 * (getI p k).o

theorem told_i (hp : PnOk p) (hs : SOk s) (hB : BOk B) {k : Nat} (h : k < p.T.length) : ToldI p s B k := by
  have hgi : getI p k = p.T.getD k t0 := by unfold getI; rw [zero_toNat]
  have ht : getI p k ∈ p.T := by rw [hgi]; exact getD_in h
  obtain ⟨hj, hs', hpp, hc, ho⟩ := hp.ts _ ht
  have hD := hp.d
  have hdr : 0 ≤ drI p k ∧ drI p k ≤ 1000 := hp.dr _ (getD_in (by omega))
  have hb := by_k hB k
  refine ⟨by omega, hj, v_bd hs _, ⟨hs, by omega, hpp, hdr⟩, bias_bd hs hdr hpp, ho, ?_⟩
  unfold ofI
  rw [remZ_nn hb.1]
  have h1 := Int.emod_nonneg (B.getD ((0 : Int) + remZ (k : Int) B.length).toNat 0) (b := 2 * (getI p k).o + 1) (by omega)
  have h2 := Int.emod_lt_of_pos (B.getD ((0 : Int) + remZ (k : Int) B.length).toNat 0) (b := 2 * (getI p k).o + 1) (by omega)
  omega

abbrev nil3 : List VV := [.nils, .nils, .nils]
/-- The loop over the tastings. -/
def lTd0s (p : Pn) (s : Nat → Int) (B : List Int) (c1 c2 c3 c4 : Nat) : LT := fun lock tt h K =>
  FitP lock h tt ⟨11, nsT0.zip (BT0 p c1 c2 c3 s B nil3 0 (tG (toT p s B)))⟩ (dsT0.zip (VT0 p c2 B.length c4 0)) ∧ (PnOk p ∧ SOk s ∧ BOk B) ∧
    (okTo p s B → K .normal (dsT0.zip (VT0 p c2 B.length c4 p.T.length)) ⟨11, nsT0.zip (BT0 p c1 c2 c3 s B nil3 p.T.length (tG (toT p s B)))⟩) ∧
    (¬ okTo p s B → ∀ k : Nat, K .ret (dsT0.zip (VT0 p c2 B.length c4 k)) ⟨11, nsT0.zip (BT0 p c1 c2 c3 s B (pC p c1 c2 c3) k (tG (toT p s B)))⟩)

def oT0 (p : Pn) (s : Nat → Int) (B : List Int) (c1 c2 c3 c4 : Nat) (_ : Nat) (e : VEx) (vs : List VV) (bs : List VB) : Prop :=
  (e = .exit 0 ∧ okTo p s B ∧ vs = VT0 p c2 B.length c4 p.T.length ∧ bs = BT0 p c1 c2 c3 s B nil3 p.T.length (tG (toT p s B))) ∨
  (e = .ret ∧ ¬ okTo p s B ∧ ∃ k : Nat, vs = VT0 p c2 B.length c4 k ∧ bs = BT0 p c1 c2 c3 s B (pC p c1 c2 c3) k (tG (toT p s B)))

theorem lTd0s_ok : LSound Try.prog true (.block 0 (.loop (loopB 0 (bodyOf Try.prog 33)))) 129 (lTd0s p s B c1 c2 c3 c4) := by
  by_cases hh : PnOk p ∧ SOk s ∧ BOk B
  · obtain ⟨hp, hs, hB⟩ := hh
    have hT := hp.t
    refine loop_row hmix (tab_good hmix (l := [biasT]) (fun x hx => by simp only [List.mem_singleton] at hx; subst hx; exact biasT_ok) (unroll := 10) 20) (un := 10) (ds := dsT0) (ns := nsT0) (nx := 11) (fun k : Nat => VT0 p c2 B.length c4 k) (fun k => BT0 p c1 c2 c3 s B nil3 k (tG (toT p s B)))
      (fun k => k ≤ p.T.length ∧ ∀ j, j < k → scOk p s B j) (fun k => p.T.length - k) (oT0 p s B c1 c2 c3 c4) noL_ok ?_ ?_
    · rintro k ⟨hk, hg⟩
      refine cast (td0_ev p c1 c2 c3 c4 s B k k _ _).symm ?_
      by_cases h : k < p.T.length
      · obtain ⟨h1, h2, h3, h4, h5, h6, h7⟩ := told_i (B := B) hp hs hB h
        have hr := rem_k hB k
        have hb := by_k hB k
        have hl : (vL s).length = 24 := rfl
        refine cond_dk (by omega) (cond_dk ⟨by omega, by omega⟩ ⟨⟨rfl, by omega, by omega⟩, cond_dk ⟨by omega, by omega⟩ (cond_dk (by omega) (cond_r (by omega) (cond_dk ⟨by omega, by omega⟩ ⟨⟨rfl, by omega, by omega⟩, s, rfl, h4, cond_r (by omega) (cond_d (fun h0 => by have := hB.pos; omega) (fun _ => cond_dk ⟨by omega, by omega⟩ ⟨⟨rfl, by omega, by omega⟩, cond_r (by omega) (cond_r (by omega) (cond_r (by omega) (cond_d (fun h0 => by omega) (fun _ => cond_r (by omega) (cond_r (by omega) ?_)))))⟩))⟩)))⟩)
        have e : vaI p s k + biasV s (getI p k).j (getI p k).p (drI p k) + ofI p B k - (getI p k).o = scI p s B k := rfl
        rw [e]
        refine cond_d (fun lo => .inr ⟨rfl, fun ho => by have := (ho k h).1; omega, k, rfl, rfl⟩) (fun lo => cond_d (fun hi => .inr ⟨rfl, fun ho => by have := (ho k h).2; omega, k, rfl, rfl⟩) (fun hi => cond_k (beq_t rfl) (cond_k (room40 (by omega)) (cond_r (by omega) ?_))))
        exact ⟨k + 1, ⟨by omega, fun j hj => by
          by_cases hjk : j = k
          · rw [hjk]; exact ⟨by omega, by omega⟩
          · exact hg j (by omega)⟩, by dsimp only; omega, vst (V := VT0 p c2 B.length c4) k, ⟨VB.fit_refl _, VB.fit_refl _, VB.fit_refl _, VB.fit_refl _, VB.fit_refl _, VB.fit_refl _, VB.fit_refl _, VB.fit_refl _, VB.fit_refl _, VB.fit_refl _, fit_grow rfl (toT_get h), trivial⟩, fun _ _ _ ho => ho⟩
      · obtain rfl : k = p.T.length := by omega
        exact cond_d (fun h => by omega) (fun _ => .inl ⟨rfl, hg, rfl, rfl⟩)
    · rintro lock tt h K ⟨hf, _, k1, k2⟩
      refine ⟨0, hf, ⟨Nat.zero_le _, fun j hj => by omega⟩, ?_⟩
      rintro e vs bs (⟨rfl, ho, rfl, rfl⟩ | ⟨rfl, ho, k, rfl, rfl⟩)
      · exact k1 ho
      · exact k2 ho k
  · rintro lock tt h K ⟨_, hc, _⟩
    exact (hh hc).elim

def BTn (p : Pn) (c1 c2 c3 : Nat) (s : Nat → Int) (B : List Int) : List VB := BTa p c1 c2 c3 s B nil3 [.slice (.el 0 [] 0 0) p.D.length c1, .nils, .nils]
def nsTn : List Nat := [0, 1, 2, 3, 4, 5, 6, 7, 8, 9]
def lTd0 (p : Pn) (s : Nat → Int) (B : List Int) (c1 c2 c3 c4 : Nat) : LT := fun lock tt h K =>
  FitP lock h tt ⟨10, nsTn.zip (BTn p c1 c2 c3 s B)⟩ (dsT0.zip (VT0 p c2 B.length c4 0)) ∧ (PnOk p ∧ SOk s ∧ BOk B) ∧
    (okTo p s B → K .normal (dsT0.zip (VT0 p c2 B.length c4 p.T.length)) ⟨11, nsT0.zip (BT0 p c1 c2 c3 s B nil3 p.T.length (tG (toT p s B)))⟩) ∧
    (¬ okTo p s B → ∀ k : Nat, K .ret (dsT0.zip (VT0 p c2 B.length c4 k)) ⟨11, nsT0.zip (BT0 p c1 c2 c3 s B (pC p c1 c2 c3) k (tG (toT p s B)))⟩)

theorem lTd0_ok : LSound Try.prog true (.block 0 (.loop (loopB 0 (bodyOf Try.prog 33)))) 129 (lTd0 p s B c1 c2 c3 c4) :=
  ghost_cells_row (m := 9) (nx := 10) (cs := [.slice (.el 0 [] 0 0) p.D.length c1, .nils, .nils]) (cs' := [.slice (.el 0 [] 0 0) p.D.length c1, .sl 10 0, .nils]) (ty := 26)
    (bs := nsTn.zip (BTn p c1 c2 c3 s B)) (t0 := dsT0.zip (VT0 p c2 B.length c4 0))
    (tG (toT p s B)) 5 32 lTd0s_ok rfl (fun R xs hv hx => by
      obtain ⟨a0, _, k0, ⟨a1, _, k1, k2, rfl⟩, rfl⟩ := hx
      exact ⟨_, _, k0, ⟨_, _, nil_ghost hv k1, k2, rfl⟩, rfl⟩) (by
      rintro lock t h K ⟨hf, hi, hK⟩
      exact ⟨hf, ⟨⟨rfl, rfl, VB.fit_refl _, VB.fit_refl _, VB.fit_refl _, VB.fit_refl _, VB.fit_refl _, VB.fit_refl _, VB.fit_refl _, VB.fit_refl _, VB.fit_refl _, VB.fit_refl _, VB.fit_refl _, trivial⟩, rfl, rfl, rfl, rfl, rfl, rfl, rfl, rfl, rfl, trivial⟩, hi, hK⟩)

structure ToldJ (p : Pn) (s : Nat → Int) (B : List Int) (k : Nat) : Prop where
  s0 : 0 ≤ (getJ p k).s ∧ (getJ p k).s < 16
  va : -32768 ≤ vaJ p s k ∧ vaJ p s k ≤ 32767
  of : 0 ≤ ofJ B k ∧ ofJ B k ≤ 49
  qu : 0 ≤ quoZ (ofJ B k) 2 ∧ quoZ (ofJ B k) 2 ≤ 24

theorem told_j (hp : PnOk p) (hs : SOk s) (hB : BOk B) {k : Nat} (h : k < p.S.length) : ToldJ p s B k := by
  have hgi : getJ p k = p.S.getD k s0 := by unfold getJ; rw [zero_toNat]
  have ht : getJ p k ∈ p.S := by rw [hgi]; exact getD_in h
  obtain ⟨hs', _⟩ := hp.sd _ ht
  have hb := by_k hB k
  have ho : 0 ≤ ofJ B k ∧ ofJ B k ≤ 49 := by
    unfold ofJ
    rw [remZ_nn hb.1]
    omega
  exact ⟨by omega, v_bd hs _, ho, by rw [quoZ_nn ho.1]; omega⟩

/-- The loop over the standards. -/
def lTd2s (p : Pn) (s : Nat → Int) (B : List Int) (c1 c2 c3 c4 : Nat) : LT := fun lock tt h K =>
  FitP lock h tt ⟨12, nsT2.zip (BT2 p c1 c2 c3 s B p.T.length 0 (tG (toT p s B)) (sG (toS p s B)))⟩ (dsT2.zip (VT2 p c3 B.length c4 0)) ∧ (PnOk p ∧ SOk s ∧ BOk B) ∧
    K .normal (dsT2.zip (VT2 p c3 B.length c4 p.S.length)) ⟨12, nsT2.zip (BT2 p c1 c2 c3 s B p.T.length p.S.length (tG (toT p s B)) (sG (toS p s B)))⟩

theorem lTd2s_ok : LSound Try.prog true (.block 2 (.loop (loopB 2 (bodyOf Try.prog 33)))) 129 (lTd2s p s B c1 c2 c3 c4) := by
  by_cases hh : PnOk p ∧ SOk s ∧ BOk B
  · obtain ⟨hp, hs, hB⟩ := hh
    have hS := hp.s
    refine loop_row hmix good0 (un := 10) (ds := dsT2) (ns := nsT2) (nx := 12) (fun k : Nat => VT2 p c3 B.length c4 k) (fun k => BT2 p c1 c2 c3 s B p.T.length k (tG (toT p s B)) (sG (toS p s B)))
      (fun k => k ≤ p.S.length) (fun k => p.S.length - k) (fun _ e vs bs => e = .exit 2 ∧ vs = VT2 p c3 B.length c4 p.S.length ∧ bs = BT2 p c1 c2 c3 s B p.T.length p.S.length (tG (toT p s B)) (sG (toS p s B))) noL_ok ?_ ?_
    · intro k hk
      refine cast (td2_ev p c1 c2 c3 c4 s B k p.T.length k _ _ _).symm ?_
      by_cases h : k < p.S.length
      · obtain ⟨h1, h3, h7, h8⟩ := told_j (B := B) hp hs hB h
        have hr := rem_k hB k
        have hb := by_k hB k
        have hl : (vL s).length = 24 := rfl
        refine cond_dk (by omega) (cond_dk ⟨by omega, by omega⟩ ⟨⟨rfl, by omega, by omega⟩, cond_d (fun h0 => by have := hB.pos; omega) (fun _ => cond_dk ⟨by omega, by omega⟩ ⟨⟨rfl, by omega, by omega⟩, cond_r (by omega) (cond_dk ⟨by omega, by omega⟩ (cond_dk (by omega) (cond_r (by omega) (cond_r (by omega) (cond_r (by omega) (cond_r (by omega) (cond_k (beq_t rfl) (cond_k (room24 (by omega)) (cond_r (by omega) ?_)))))))))⟩)⟩)
        exact ⟨k + 1, by omega, by dsimp only; omega, vst (V := VT2 p c3 B.length c4) k, ⟨VB.fit_refl _, VB.fit_refl _, VB.fit_refl _, VB.fit_refl _, VB.fit_refl _, VB.fit_refl _, VB.fit_refl _, VB.fit_refl _, VB.fit_refl _, VB.fit_refl _, VB.fit_refl _, fit_grow rfl (toS_get h), trivial⟩, fun _ _ _ ho => ho⟩
      · obtain rfl : k = p.S.length := by omega
        exact cond_d (fun h => by omega) (fun _ => ⟨rfl, rfl, rfl⟩)
    · rintro lock tt h K ⟨hf, _, hK⟩
      refine ⟨0, hf, Nat.zero_le _, ?_⟩
      rintro e vs bs ⟨rfl, rfl, rfl⟩
      exact hK
  · rintro lock tt h K ⟨_, hc, _⟩
    exact (hh hc).elim

def lTd2 (p : Pn) (s : Nat → Int) (B : List Int) (c1 c2 c3 c4 : Nat) : LT := fun lock tt h K =>
  FitP lock h tt ⟨11, nsT0.zip (BT0 p c1 c2 c3 s B nil3 p.T.length (tG (toT p s B)))⟩ (dsT2.zip (VT2 p c3 B.length c4 0)) ∧ (PnOk p ∧ SOk s ∧ BOk B) ∧
    K .normal (dsT2.zip (VT2 p c3 B.length c4 p.S.length)) ⟨12, nsT2.zip (BT2 p c1 c2 c3 s B p.T.length p.S.length (tG (toT p s B)) (sG (toS p s B)))⟩

theorem lTd2_ok : LSound Try.prog true (.block 2 (.loop (loopB 2 (bodyOf Try.prog 33)))) 129 (lTd2 p s B c1 c2 c3 c4) :=
  ghost_cells_row (m := 9) (nx := 11) (cs := [.slice (.el 0 [] 0 0) p.D.length c1, .sl 10 p.T.length, .nils]) (cs' := [.slice (.el 0 [] 0 0) p.D.length c1, .sl 10 p.T.length, .sl 11 0]) (ty := 26)
    (bs := nsT0.zip (BT0 p c1 c2 c3 s B nil3 p.T.length (tG (toT p s B)))) (t0 := dsT2.zip (VT2 p c3 B.length c4 0))
    (sG (toS p s B)) 3 36 lTd2s_ok rfl (fun R xs hv hx => by
      obtain ⟨a0, _, k0, ⟨a1, _, k1, ⟨a2, _, k2, k3, rfl⟩, rfl⟩, rfl⟩ := hx
      exact ⟨_, _, k0, ⟨_, _, k1, ⟨_, _, nil_ghost hv k2, k3, rfl⟩, rfl⟩, rfl⟩) (by
      rintro lock t h K ⟨hf, hi, hK⟩
      exact ⟨hf, ⟨⟨rfl, rfl, VB.fit_refl _, VB.fit_refl _, VB.fit_refl _, VB.fit_refl _, VB.fit_refl _, VB.fit_refl _, VB.fit_refl _, VB.fit_refl _, VB.fit_refl _, VB.fit_refl _, VB.fit_refl _, VB.fit_refl _, trivial⟩, rfl, rfl, rfl, rfl, rfl, rfl, rfl, trivial⟩, hi, hK⟩)
end
end Go.Sx.Nos
