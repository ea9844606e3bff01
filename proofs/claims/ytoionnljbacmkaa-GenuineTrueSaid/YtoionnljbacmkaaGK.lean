/- genuine: Gk1 Gk2 Gk3 Gl1 Gl2, in one text. -/
import Derived.Test.YtoionnljbacmkaaGI
import Derived.Test.YtoionnljbacmkaaSxW
/- genuine: Reasons and Share, evaluated. -/

namespace Go.Sx.Gen
open Go Go.Sx Go.Proofs
set_option maxRecDepth 100000

theorem f11_ev (n cap : Nat) (l : Int → Src) (b : Sus) (k : Int) (Q : VRes → VH → Prop) : callN Try.prog (tabS (c46T n l b (0 + k) :: t4 n l b)) noL 10 20 0 (.fn 11) [bV b, lV n cap, I k] (bH n l b) Q =
  (((srcA n l = srcA n l ∧ valA n l = valA n l ∧ seenA b = seenA b) ∧ [bV b, lV n cap] = [bV b, lV n cap]) ∧ bif !okB n l b then
 Q (VRes.ret (VV.tup [VV.nils, I 1])) (VH.mk (4) ([(3, cSu b), (0, srcA n l), (1, valA n l), (2, seenA b)]))
 else bif inK IntKind.i64 ((↑n : Int) - (1 : Int)) then
 bif !inB k (0 : Int) ((↑n : Int) - (1 : Int)) then
 Q (VRes.ret (VV.tup [VV.nils, I 2])) (VH.mk (4) ([(3, cSu b), (0, srcA n l), (1, valA n l), (2, seenA b)]))
 else bif decide ((0 : Int) ≤ k ∧ k < (↑n : Int)) then
 (([] : List Int) = [] ∧ (0 : Int) ≤ (0 : Int) + k ∧ (0 : Int) + k < (↑n : Int)) ∧ (hR n l b ((0 : Int) + k) = hR n l b ((0 : Int) + k) ∧ [VV.nils, fR] = [VV.nils, fR] ∧ OkI n l b ((0 : Int) + k)) ∧ Q (VRes.ret (VV.tup [VV.sl 6 (reasonsF b (l ((0 : Int) + k))).length, I 0])) (VH.mk (9) ([(0, srcA n l), (1, valA n l), (2, seenA b), (3, cSu b), (4, cSu b), (5, VB.cells [I (l ((0 : Int) + k)).cask, I (l ((0 : Int) + k)).drawn, I (l ((0 : Int) + k)).slo, I (l ((0 : Int) + k)).shi, VV.slice (VA.el 1 [(0 : Int) + k] (0 : Int) 0) (l ((0 : Int) + k)).vl (l ((0 : Int) + k)).vc] (51 : TypeId)), (6, VB.vec (reasonsF b (l ((0 : Int) + k))).length (fun i => [I ((reasonsF b (l ((0 : Int) + k))).getD i (0 : Int))]) 1 (3 : TypeId))]))
 else False
 else False) := by kernel_rfl

theorem f12_ev (n cap : Nat) (l : Int → Src) (b : Sus) (k : Int) (Q : VRes → VH → Prop) : callN Try.prog (tabS (t4 n l b)) noL 10 20 0 (.fn 12) [bV b, lV n cap, I k] (bH n l b) Q =
  (((srcA n l = srcA n l ∧ valA n l = valA n l ∧ seenA b = seenA b) ∧ n = n) ∧ bif !srcsB n l then
 Q (VRes.ret (VV.tup [VV.nils, I 1])) (VH.mk (4) ([(3, cSu b), (0, srcA n l), (1, valA n l), (2, seenA b)]))
 else ((srcA n l = srcA n l ∧ valA n l = valA n l ∧ seenA b = seenA b) ∧ [bV b, lV n cap] = [bV b, lV n cap]) ∧ bif !bothB b n l then
 Q (VRes.ret (VV.tup [VV.nils, I 1])) (VH.mk (4) ([(3, cSu b), (0, srcA n l), (1, valA n l), (2, seenA b)]))
 else bif inK IntKind.i64 ((↑n : Int) - (1 : Int)) then
 bif !inB k (0 : Int) ((↑n : Int) - (1 : Int)) then
 Q (VRes.ret (VV.tup [VV.nils, I 2])) (VH.mk (4) ([(3, cSu b), (0, srcA n l), (1, valA n l), (2, seenA b)]))
 else bif decide ((0 : Int) ≤ k ∧ k < (↑n : Int)) then
 (([] : List Int) = [] ∧ (0 : Int) ≤ (0 : Int) + k ∧ (0 : Int) + k < (↑n : Int)) ∧ ((srcA n l = srcA n l ∧ valA n l = valA n l ∧ seenA b = seenA b) ∧ [bV b, VV.agg [I (l ((0 : Int) + k)).cask, I (l ((0 : Int) + k)).drawn, I (l ((0 : Int) + k)).slo, I (l ((0 : Int) + k)).shi, VV.slice (VA.el 1 [(0 : Int) + k] (0 : Int) 0) (l ((0 : Int) + k)).vl (l ((0 : Int) + k)).vc]] = [bV b, VV.agg [I (l ((0 : Int) + k)).cask, I (l ((0 : Int) + k)).drawn, I (l ((0 : Int) + k)).slo, I (l ((0 : Int) + k)).shi, VV.slice (VA.el 1 [(0 : Int) + k] (0 : Int) 0) (l ((0 : Int) + k)).vl (l ((0 : Int) + k)).vc]] ∧ OkI n l b ((0 : Int) + k)) ∧ Q (VRes.ret (VV.tup [VV.sl (4 + 3) (reasonsF b (l ((0 : Int) + k))).length, I 0])) (VH.mk (4 + 4) ([(4 + 3, VB.vec (reasonsF b (l ((0 : Int) + k))).length (fun i => [I ((reasonsF b (l ((0 : Int) + k))).getD i (0 : Int))]) 1 (3 : TypeId)), (4 + 2, VB.gone), (4 + 1, VB.gone), (4, VB.gone), (3, cSu b), (0, srcA n l), (1, valA n l), (2, seenA b)]))
 else False
 else False) := by kernel_rfl

theorem f13_ev (n cap : Nat) (l : Int → Src) (b : Sus) (k m : Int) (Q : VRes → VH → Prop) : callN Try.prog (tabS (t4 n l b)) noL 10 20 0 (.fn 13) [bV b, lV n cap, I k, I m] (bH n l b) Q =
  (((srcA n l = srcA n l ∧ valA n l = valA n l ∧ seenA b = seenA b) ∧ [bV b, lV n cap] = [bV b, lV n cap]) ∧ bif !okB n l b then
 Q (VRes.ret (VV.tup [VV.agg [I 0, I 0], VV.agg [I 0, I 0], I 1])) (VH.mk (6) ([(5, VB.cells [I 0, I 0] 35), (4, VB.cells [I 0, I 0] 35), (5, VB.cells [I 0, I 0] 35), (4, VB.cells [I 0, I 0] 35), (3, cSu b), (0, srcA n l), (1, valA n l), (2, seenA b)]))
 else bif inK IntKind.i64 ((↑n : Int) - (1 : Int)) then
 bif !inB k (0 : Int) ((↑n : Int) - (1 : Int)) then
 Q (VRes.ret (VV.tup [VV.agg [I 0, I 0], VV.agg [I 0, I 0], I 2])) (VH.mk (6) ([(5, VB.cells [I 0, I 0] 35), (4, VB.cells [I 0, I 0] 35), (5, VB.cells [I 0, I 0] 35), (4, VB.cells [I 0, I 0] 35), (3, cSu b), (0, srcA n l), (1, valA n l), (2, seenA b)]))
 else bif inK IntKind.i64 ((↑n : Int) - (1 : Int)) then
 bif !inB m (0 : Int) ((↑n : Int) - (1 : Int)) then
 Q (VRes.ret (VV.tup [VV.agg [I 0, I 0], VV.agg [I 0, I 0], I 2])) (VH.mk (6) ([(5, VB.cells [I 0, I 0] 35), (4, VB.cells [I 0, I 0] 35), (5, VB.cells [I 0, I 0] 35), (4, VB.cells [I 0, I 0] 35), (3, cSu b), (0, srcA n l), (1, valA n l), (2, seenA b)]))
 else bif decide ((0 : Int) ≤ k ∧ k < (↑n : Int)) then
 (([] : List Int) = [] ∧ (0 : Int) ≤ (0 : Int) + k ∧ (0 : Int) + k < (↑n : Int)) ∧ bif decide ((0 : Int) ≤ m ∧ m < (↑n : Int)) then
 (([] : List Int) = [] ∧ (0 : Int) ≤ (0 : Int) + m ∧ (0 : Int) + m < (↑n : Int)) ∧ ((srcA n l = srcA n l ∧ valA n l = valA n l ∧ seenA b = seenA b) ∧ [bV b, VV.agg [I (l ((0 : Int) + k)).cask, I (l ((0 : Int) + k)).drawn, I (l ((0 : Int) + k)).slo, I (l ((0 : Int) + k)).shi, VV.slice (VA.el 1 [(0 : Int) + k] (0 : Int) 0) (l ((0 : Int) + k)).vl (l ((0 : Int) + k)).vc], VV.agg [I (l ((0 : Int) + m)).cask, I (l ((0 : Int) + m)).drawn, I (l ((0 : Int) + m)).slo, I (l ((0 : Int) + m)).shi, VV.slice (VA.el 1 [(0 : Int) + m] (0 : Int) 0) (l ((0 : Int) + m)).vl (l ((0 : Int) + m)).vc]] = [bV b, VV.agg [I (l ((0 : Int) + k)).cask, I (l ((0 : Int) + k)).drawn, I (l ((0 : Int) + k)).slo, I (l ((0 : Int) + k)).shi, VV.slice (VA.el 1 [(0 : Int) + k] (0 : Int) 0) (l ((0 : Int) + k)).vl (l ((0 : Int) + k)).vc], VV.agg [I (l ((0 : Int) + m)).cask, I (l ((0 : Int) + m)).drawn, I (l ((0 : Int) + m)).slo, I (l ((0 : Int) + m)).shi, VV.slice (VA.el 1 [(0 : Int) + m] (0 : Int) 0) (l ((0 : Int) + m)).vl (l ((0 : Int) + m)).vc]] ∧ OkS n l b ((0 : Int) + k) ((0 : Int) + m)) ∧ bif (sharedF b (l ((0 : Int) + k)) (l ((0 : Int) + m))).no then
 Q (VRes.ret (VV.tup [VV.agg [I 0, I 0], VV.agg [I 0, I 0], I 4])) (VH.mk (7) ([(5, VB.cells [I 0, I 0] 35), (4, VB.cells [I 0, I 0] 35), (6, VB.cells [I (sharedF b (l ((0 : Int) + k)) (l ((0 : Int) + m))).la, I (sharedF b (l ((0 : Int) + k)) (l ((0 : Int) + m))).lb, I (sharedF b (l ((0 : Int) + k)) (l ((0 : Int) + m))).ma, I (sharedF b (l ((0 : Int) + k)) (l ((0 : Int) + m))).mb, VV.bool (sharedF b (l ((0 : Int) + k)) (l ((0 : Int) + m))).no] 75), (6, VB.cells [I 0, I 0, I 0, I 0, VV.bool false] 75), (5, VB.cells [I 0, I 0] 35), (4, VB.cells [I 0, I 0] 35), (3, cSu b), (0, srcA n l), (1, valA n l), (2, seenA b)]))
 else (bdI 4194304 (sharedF b (l ((0 : Int) + k)) (l ((0 : Int) + m))).la ∧ bdI 4194304 (sharedF b (l ((0 : Int) + k)) (l ((0 : Int) + m))).lb ∧ (0 : Int) < (sharedF b (l ((0 : Int) + k)) (l ((0 : Int) + m))).lb) ∧ (bdI 4194304 (sharedF b (l ((0 : Int) + k)) (l ((0 : Int) + m))).ma ∧ bdI 4194304 (sharedF b (l ((0 : Int) + k)) (l ((0 : Int) + m))).mb ∧ (0 : Int) < (sharedF b (l ((0 : Int) + k)) (l ((0 : Int) + m))).mb) ∧ Q (VRes.ret (VV.tup [VV.agg [I (redF (sharedF b (l ((0 : Int) + k)) (l ((0 : Int) + m))).la (sharedF b (l ((0 : Int) + k)) (l ((0 : Int) + m))).lb).fst, I (redF (sharedF b (l ((0 : Int) + k)) (l ((0 : Int) + m))).la (sharedF b (l ((0 : Int) + k)) (l ((0 : Int) + m))).lb).snd], VV.agg [I (redF (sharedF b (l ((0 : Int) + k)) (l ((0 : Int) + m))).ma (sharedF b (l ((0 : Int) + k)) (l ((0 : Int) + m))).mb).fst, I (redF (sharedF b (l ((0 : Int) + k)) (l ((0 : Int) + m))).ma (sharedF b (l ((0 : Int) + k)) (l ((0 : Int) + m))).mb).snd], I 0])) (VH.mk (7) ([(5, VB.cells [I (redF (sharedF b (l ((0 : Int) + k)) (l ((0 : Int) + m))).ma (sharedF b (l ((0 : Int) + k)) (l ((0 : Int) + m))).mb).fst, I (redF (sharedF b (l ((0 : Int) + k)) (l ((0 : Int) + m))).ma (sharedF b (l ((0 : Int) + k)) (l ((0 : Int) + m))).mb).snd] 35), (4, VB.cells [I (redF (sharedF b (l ((0 : Int) + k)) (l ((0 : Int) + m))).la (sharedF b (l ((0 : Int) + k)) (l ((0 : Int) + m))).lb).fst, I (redF (sharedF b (l ((0 : Int) + k)) (l ((0 : Int) + m))).la (sharedF b (l ((0 : Int) + k)) (l ((0 : Int) + m))).lb).snd] 35), (6, VB.cells [I (sharedF b (l ((0 : Int) + k)) (l ((0 : Int) + m))).la, I (sharedF b (l ((0 : Int) + k)) (l ((0 : Int) + m))).lb, I (sharedF b (l ((0 : Int) + k)) (l ((0 : Int) + m))).ma, I (sharedF b (l ((0 : Int) + k)) (l ((0 : Int) + m))).mb, VV.bool (sharedF b (l ((0 : Int) + k)) (l ((0 : Int) + m))).no] 75), (6, VB.cells [I 0, I 0, I 0, I 0, VV.bool false] 75), (5, VB.cells [I 0, I 0] 35), (4, VB.cells [I 0, I 0] 35), (3, cSu b), (0, srcA n l), (1, valA n l), (2, seenA b)]))
 else False
 else False
 else False
 else False) := by kernel_rfl

theorem f14_ev (n cap : Nat) (l : Int → Src) (b : Sus) (k m : Int) (Q : VRes → VH → Prop) : callN Try.prog (tabS (t4 n l b)) noL 10 20 0 (.fn 14) [bV b, lV n cap, I k, I m] (bH n l b) Q =
  (((srcA n l = srcA n l ∧ valA n l = valA n l ∧ seenA b = seenA b) ∧ n = n) ∧ bif !srcsB n l then
 Q (VRes.ret (VV.tup [VV.agg [I 0, I 0], VV.agg [I 0, I 0], I 1])) (VH.mk (6) ([(5, VB.cells [I 0, I 0] 35), (4, VB.cells [I 0, I 0] 35), (5, VB.cells [I 0, I 0] 35), (4, VB.cells [I 0, I 0] 35), (3, cSu b), (0, srcA n l), (1, valA n l), (2, seenA b)]))
 else ((srcA n l = srcA n l ∧ valA n l = valA n l ∧ seenA b = seenA b) ∧ [bV b, lV n cap] = [bV b, lV n cap]) ∧ bif !bothB b n l then
 Q (VRes.ret (VV.tup [VV.agg [I 0, I 0], VV.agg [I 0, I 0], I 1])) (VH.mk (6) ([(5, VB.cells [I 0, I 0] 35), (4, VB.cells [I 0, I 0] 35), (5, VB.cells [I 0, I 0] 35), (4, VB.cells [I 0, I 0] 35), (3, cSu b), (0, srcA n l), (1, valA n l), (2, seenA b)]))
 else bif inK IntKind.i64 ((↑n : Int) - (1 : Int)) then
 bif !inB k (0 : Int) ((↑n : Int) - (1 : Int)) then
 Q (VRes.ret (VV.tup [VV.agg [I 0, I 0], VV.agg [I 0, I 0], I 2])) (VH.mk (6) ([(5, VB.cells [I 0, I 0] 35), (4, VB.cells [I 0, I 0] 35), (5, VB.cells [I 0, I 0] 35), (4, VB.cells [I 0, I 0] 35), (3, cSu b), (0, srcA n l), (1, valA n l), (2, seenA b)]))
 else bif inK IntKind.i64 ((↑n : Int) - (1 : Int)) then
 bif !inB m (0 : Int) ((↑n : Int) - (1 : Int)) then
 Q (VRes.ret (VV.tup [VV.agg [I 0, I 0], VV.agg [I 0, I 0], I 2])) (VH.mk (6) ([(5, VB.cells [I 0, I 0] 35), (4, VB.cells [I 0, I 0] 35), (5, VB.cells [I 0, I 0] 35), (4, VB.cells [I 0, I 0] 35), (3, cSu b), (0, srcA n l), (1, valA n l), (2, seenA b)]))
 else bif decide ((0 : Int) ≤ k ∧ k < (↑n : Int)) then
 (([] : List Int) = [] ∧ (0 : Int) ≤ (0 : Int) + k ∧ (0 : Int) + k < (↑n : Int)) ∧ bif decide ((0 : Int) ≤ m ∧ m < (↑n : Int)) then
 (([] : List Int) = [] ∧ (0 : Int) ≤ (0 : Int) + m ∧ (0 : Int) + m < (↑n : Int)) ∧ ((srcA n l = srcA n l ∧ valA n l = valA n l ∧ seenA b = seenA b) ∧ [bV b, VV.agg [I (l ((0 : Int) + k)).cask, I (l ((0 : Int) + k)).drawn, I (l ((0 : Int) + k)).slo, I (l ((0 : Int) + k)).shi, VV.slice (VA.el 1 [(0 : Int) + k] (0 : Int) 0) (l ((0 : Int) + k)).vl (l ((0 : Int) + k)).vc], VV.agg [I (l ((0 : Int) + m)).cask, I (l ((0 : Int) + m)).drawn, I (l ((0 : Int) + m)).slo, I (l ((0 : Int) + m)).shi, VV.slice (VA.el 1 [(0 : Int) + m] (0 : Int) 0) (l ((0 : Int) + m)).vl (l ((0 : Int) + m)).vc]] = [bV b, VV.agg [I (l ((0 : Int) + k)).cask, I (l ((0 : Int) + k)).drawn, I (l ((0 : Int) + k)).slo, I (l ((0 : Int) + k)).shi, VV.slice (VA.el 1 [(0 : Int) + k] (0 : Int) 0) (l ((0 : Int) + k)).vl (l ((0 : Int) + k)).vc], VV.agg [I (l ((0 : Int) + m)).cask, I (l ((0 : Int) + m)).drawn, I (l ((0 : Int) + m)).slo, I (l ((0 : Int) + m)).shi, VV.slice (VA.el 1 [(0 : Int) + m] (0 : Int) 0) (l ((0 : Int) + m)).vl (l ((0 : Int) + m)).vc]] ∧ OkS n l b ((0 : Int) + k) ((0 : Int) + m)) ∧ ∀ (s : Shr), (shareB b (l ((0 : Int) + k)) (l ((0 : Int) + m)) = true → s = rfF b (l ((0 : Int) + k)) (l ((0 : Int) + m))) → bif !shareB b (l ((0 : Int) + k)) (l ((0 : Int) + m)) then
 Q (VRes.ret (VV.tup [VV.agg [I 0, I 0], VV.agg [I 0, I 0], I 4])) (VH.mk (8) ([(5, VB.cells [I 0, I 0] 35), (4, VB.cells [I 0, I 0] 35), (7, VB.cells [I s.ma, I s.mb] 35), (6, VB.cells [I s.la, I s.lb] 35), (7, VB.cells [I 0, I 0] 35), (6, VB.cells [I 0, I 0] 35), (5, VB.cells [I 0, I 0] 35), (4, VB.cells [I 0, I 0] 35), (3, cSu b), (0, srcA n l), (1, valA n l), (2, seenA b)]))
 else Q (VRes.ret (VV.tup [VV.agg [I s.la, I s.lb], VV.agg [I s.ma, I s.mb], I 0])) (VH.mk (8) ([(5, VB.cells [I s.ma, I s.mb] 35), (4, VB.cells [I s.la, I s.lb] 35), (7, VB.cells [I s.ma, I s.mb] 35), (6, VB.cells [I s.la, I s.lb] 35), (7, VB.cells [I 0, I 0] 35), (6, VB.cells [I 0, I 0] 35), (5, VB.cells [I 0, I 0] 35), (4, VB.cells [I 0, I 0] 35), (3, cSu b), (0, srcA n l), (1, valA n l), (2, seenA b)]))
 else False
 else False
 else False
 else False) := by kernel_rfl


end Go.Sx.Gen

/- genuine: Reasons, Share and Origins of both, as rows. -/

namespace Go.Sx.Gen
open Go Go.Sx Go.Proofs
set_option maxRecDepth 100000

section
variable {n cap : Nat} {l : Int → Src} {b : Sus} {i j : Int}

def inR (n : Nat) (k : Int) : Bool := inB k 0 ((n : Int) - 1)
def rsE (n : Nat) (l : Int → Src) (b : Sus) (k : Int) : Int := bif okB n l b then (bif inR n k then 0 else 2) else 1
def rsL (n : Nat) (l : Int → Src) (b : Sus) (k : Int) : List Int := bif okB n l b then (bif inR n k then reasonsF b (l k) else []) else []
def shE (n : Nat) (l : Int → Src) (b : Sus) (k m : Int) : Int := bif okB n l b then (bif inR n k then (bif inR n m then (bif shareB b (l k) (l m) then 0 else 4) else 2) else 2) else 1
def shR (n : Nat) (l : Int → Src) (b : Sus) (k m : Int) : Shr := bif decide (shE n l b k m = 0) then rfF b (l k) (l m) else mkS 0 0 0 0 false

abbrev rsV (nm : Nat) (n : Nat) (l : Int → Src) (b : Sus) (k : Int) : VV := .tup [.sl nm (rsL n l b k).length, I (rsE n l b k)]
abbrev shO (n : Nat) (l : Int → Src) (b : Sus) (k m : Int) : VV := .tup [.agg [I (shR n l b k m).la, I (shR n l b k m).lb], .agg [I (shR n l b k m).ma, I (shR n l b k m).mb], I (shE n l b k m)]

theorem inR_iff {k : Int} : inR n k = true ↔ 0 ≤ k ∧ k < n := by
  unfold inR
  rw [inB_iff]
  omega

theorem rs_ghost {f : FuncId} {args : List VV} {h : VH} {nx : Nat} {bs : List (Nat × VB)} {e : Int} (hc : CallsV Try.prog f args h (.ret (.tup [.nils, I e])) ⟨nx, bs⟩) : CallsV Try.prog f args h (.ret (.tup [.sl nx 0, I e])) ((VH.mk nx bs).new (vecI [])) :=
  calls_ghost (v2 := .tup [.sl nx 0, I e]) (fun i => [I (([] : List Int).getD i 0)]) 1 3 hc (fun R x hv hx => by
    obtain ⟨xs, ⟨y, ys, g1, ⟨y2, ys2, g2, g3, rfl⟩, rfl⟩, hx⟩ := hx
    exact ⟨_, ⟨y, _, nil_ghost hv g1, ⟨y2, _, g2, g3, rfl⟩, rfl⟩, hx⟩)

def hRs (nm : Nat) (n : Nat) (l : Int → Src) (b : Sus) (k : Int) : VH := ⟨nm + 1, [(0, srcA n l), (1, valA n l), (2, seenA b), (nm, vecI (rsL n l b k))]⟩

theorem rs11_v (hw : Wf n l b) (hn : n ≤ maxI) {k : Int} : CallsV Try.prog 11 [bV b, lV n cap, I k] (bH n l b) (.ret (rsV 6 n l b k)) (hRs 6 n l b k) := by
  obtain ⟨r, h', hQ, hc⟩ := of_callN (tab_good (unroll := 10) hmix (l := c46T n l b (0 + k) :: t4 n l b) (by
      intro x hx
      simp only [List.mem_cons] at hx
      rcases hx with rfl | hx
      · exact c46_ok
      · exact t4_ok hw x hx) 20) (f := 11) (args := [bV b, lV n cap, I k]) (h := bH n l b)
    (K := fun r h' => (rsL n l b k = [] ∧ r = .ret (.tup [.nils, I (rsE n l b k)]) ∧ h' = ⟨4, [(3, cSu b), (0, srcA n l), (1, valA n l), (2, seenA b)]⟩) ∨
      (r = .ret (.tup [.sl 6 (rsL n l b k).length, I (rsE n l b k)]) ∧ ∃ x y z, h' = ⟨9, [(0, srcA n l), (1, valA n l), (2, seenA b), (3, x), (4, y), (5, z), (6, vecI (rsL n l b k))]⟩))
    (by
      rw [f11_ev]
      unfold rsL rsE maxI at *
      refine ⟨⟨⟨rfl, rfl, rfl⟩, rfl⟩, ?_⟩
      cases hok : okB n l b with
      | false => exact .inl ⟨rfl, rfl, rfl⟩
      | true =>
        refine cond_r (by omega) ?_
        cases hk : inR n k with
        | false =>
          have hk' : inB k 0 ((n : Int) - 1) = false := hk
          rw [hk']
          exact .inl ⟨rfl, rfl, rfl⟩
        | true =>
          have hk' : inB k 0 ((n : Int) - 1) = true := hk
          obtain ⟨k0, k1⟩ := inR_iff.1 hk
          rw [hk']
          refine cond_dk ⟨k0, k1⟩ ⟨⟨rfl, by omega, by omega⟩, ⟨rfl, rfl, ?_⟩, ?_⟩
          · rw [Int.zero_add]; exact okI_of hok k0 k1
          · rw [Int.zero_add]; exact .inr ⟨rfl, _, _, _, rfl⟩)
  rcases hQ with ⟨h1, rfl, rfl⟩ | ⟨rfl, x, y, z, rfl⟩
  · have h2 := calls_weak hc (k := 6) (bs := [(0, srcA n l), (1, valA n l), (2, seenA b)]) (show 3 ≤ 6 by decide) ⟨VB.fit_refl _, VB.fit_refl _, VB.fit_refl _, trivial⟩ rfl rfl
    unfold rsV hRs
    rw [h1]
    exact calls_weak (rs_ghost h2) (show 3 ≤ 7 by decide) ⟨VB.fit_refl _, VB.fit_refl _, VB.fit_refl _, VB.fit_refl _, trivial⟩ rfl rfl
  · exact calls_weak hc (show 3 ≤ 7 by decide) ⟨VB.fit_refl _, VB.fit_refl _, VB.fit_refl _, VB.fit_refl _, trivial⟩ rfl rfl

theorem rs12_v (hw : Wf n l b) (hn : n ≤ maxI) {k : Int} : CallsV Try.prog 12 [bV b, lV n cap, I k] (bH n l b) (.ret (rsV 7 n l b k)) (hRs 7 n l b k) := by
  obtain ⟨r, h', hQ, hc⟩ := of_callN (goodT4 hw) (f := 12) (args := [bV b, lV n cap, I k]) (h := bH n l b)
    (K := fun r h' => (rsL n l b k = [] ∧ r = .ret (.tup [.nils, I (rsE n l b k)]) ∧ h' = ⟨4, [(3, cSu b), (0, srcA n l), (1, valA n l), (2, seenA b)]⟩) ∨
      (r = .ret (.tup [.sl 7 (rsL n l b k).length, I (rsE n l b k)]) ∧ h'.at 0 = srcA n l ∧ h'.at 1 = valA n l ∧ h'.at 2 = seenA b ∧ h'.at 7 = vecI (rsL n l b k)))
    (by
      rw [f12_ev]
      unfold rsL rsE maxI at *
      refine ⟨⟨⟨rfl, rfl, rfl⟩, rfl⟩, cond_b (fun q1 => .inl ?_) (fun q1 => ⟨⟨⟨rfl, rfl, rfl⟩, rfl⟩, cond_b (fun q2 => .inl ?_) (fun q2 => ?_)⟩)⟩
      · have : okB n l b = false := by simp at q1; simp [okB, q1]
        rw [this]; exact ⟨rfl, rfl, rfl⟩
      · have : okB n l b = false := by simp at q2; simp [okB, q2]
        rw [this]; exact ⟨rfl, rfl, rfl⟩
      · have hok : okB n l b = true := by simp at q1 q2; simp [okB, q1, q2]
        rw [hok]
        refine cond_r (by omega) ?_
        cases hk : inR n k with
        | false =>
          have hk' : inB k 0 ((n : Int) - 1) = false := hk
          rw [hk']
          exact .inl ⟨rfl, rfl, rfl⟩
        | true =>
          have hk' : inB k 0 ((n : Int) - 1) = true := hk
          obtain ⟨k0, k1⟩ := inR_iff.1 hk
          rw [hk']
          refine cond_dk ⟨k0, k1⟩ ⟨⟨rfl, by omega, by omega⟩, ⟨⟨rfl, rfl, rfl⟩, rfl, ?_⟩, ?_⟩
          · rw [Int.zero_add]; exact okI_of hok k0 k1
          · rw [Int.zero_add]; exact .inr ⟨rfl, rfl, rfl, rfl, rfl⟩)
  rcases hQ with ⟨h1, rfl, rfl⟩ | ⟨rfl, g0, g1, g2, g3⟩
  · have h2 := calls_weak hc (k := 7) (bs := [(0, srcA n l), (1, valA n l), (2, seenA b)]) (show 3 ≤ 7 by decide) ⟨VB.fit_refl _, VB.fit_refl _, VB.fit_refl _, trivial⟩ rfl rfl
    unfold rsV hRs
    rw [h1]
    exact calls_weak (rs_ghost h2) (show 3 ≤ 8 by decide) ⟨VB.fit_refl _, VB.fit_refl _, VB.fit_refl _, VB.fit_refl _, trivial⟩ rfl rfl
  · exact calls_weak hc (show 3 ≤ 8 by decide) ⟨by rw [g0]; exact VB.fit_refl _, by rw [g1]; exact VB.fit_refl _, by rw [g2]; exact VB.fit_refl _, by rw [g3]; exact VB.fit_refl _, trivial⟩ rfl rfl
end
end Go.Sx.Gen

/- genuine: Share of both. -/

namespace Go.Sx.Gen
open Go Go.Sx Go.Proofs
set_option maxRecDepth 100000

section
variable {n cap : Nat} {l : Int → Src} {b : Sus} {i j : Int}

theorem shrL_bd (hi : OkS n l b i j) : ∀ {m : Nat} {k : Int} {s : Shr}, Bd s → 0 ≤ k → k + m ≤ b.sl → Bd (shrL b (l i) (l j) m k s)
  | 0, _, _, h, _, _ => h
  | m + 1, k, s, h, h0, h1 => by
    obtain ⟨hb, ⟨hi0, hi1⟩, hj0, hj1⟩ := id hi
    have sx := srcOk_of hb hi0 hi1
    have sy := srcOk_of hb hj0 hj1
    have sb := susOk_of hb
    have vx := sx.vl
    have vy := sy.vl
    have x2 := sx.val k h0 (by omega)
    have y2 := sy.val k h0 (by omega)
    have b2 := sb.val k h0 (by omega)
    refine shrL_bd hi (m := m) (k := k + 1) ?_ (by omega) (by omega)
    unfold shrK
    refine atF_bd (atF_bd h ?_ ?_) ?_ ?_ <;> (unfold bdI; omega)

theorem shared_bd (hi : OkS n l b i j) : Bd (sharedF b (l i) (l j)) := by
  obtain ⟨hb, ⟨hi0, hi1⟩, hj0, hj1⟩ := id hi
  have sx := (srcOk_of hb hi0 hi1).str
  have sy := (srcOk_of hb hj0 hj1).str
  have sb := (susOk_of hb).str
  refine shrL_bd hi (atF_bd ⟨?_, ?_, ?_, ?_⟩ ?_ ?_) (by omega) (by omega)
  · show bdI _ 0; unfold bdI; omega
  · show bdI _ 1; unfold bdI; omega
  · show bdI _ 1; unfold bdI; omega
  · show bdI _ 1; unfold bdI; omega
  · unfold bdI; omega
  · unfold bdI; omega

theorem sh_no : n = n → True := fun _ => trivial

theorem sh13_v (hw : Wf n l b) (hn : n ≤ maxI) {k m : Int} : ∃ h', CallsV Try.prog 13 [bV b, lV n cap, I k, I m] (bH n l b) (.ret (shO n l b k m)) h' ∧ h'.at 0 = srcA n l ∧ h'.at 1 = valA n l ∧ h'.at 2 = seenA b := by
  obtain ⟨r, h', hQ, hc⟩ := of_callN (goodT4 hw) (f := 13) (args := [bV b, lV n cap, I k, I m]) (h := bH n l b)
    (K := fun r h' => r = .ret (shO n l b k m) ∧ h'.at 0 = srcA n l ∧ h'.at 1 = valA n l ∧ h'.at 2 = seenA b)
    (by
      rw [f13_ev]
      unfold shO shR shE maxI at *
      refine ⟨⟨⟨rfl, rfl, rfl⟩, rfl⟩, ?_⟩
      cases hok : okB n l b with
      | false => exact ⟨rfl, rfl, rfl, rfl⟩
      | true =>
        refine cond_r (by omega) ?_
        cases hk : inR n k with
        | false =>
          have hk' : inB k 0 ((n : Int) - 1) = false := hk
          rw [hk']
          exact ⟨rfl, rfl, rfl, rfl⟩
        | true =>
          have hk' : inB k 0 ((n : Int) - 1) = true := hk
          obtain ⟨k0, k1⟩ := inR_iff.1 hk
          rw [hk']
          refine cond_r (by omega) ?_
          cases hm : inR n m with
          | false =>
            have hm' : inB m 0 ((n : Int) - 1) = false := hm
            rw [hm']
            exact ⟨rfl, rfl, rfl, rfl⟩
          | true =>
            have hm' : inB m 0 ((n : Int) - 1) = true := hm
            obtain ⟨m0, m1⟩ := inR_iff.1 hm
            rw [hm']
            have hS : OkS n l b k m := ⟨hok, ⟨k0, k1⟩, m0, m1⟩
            refine cond_dk ⟨k0, k1⟩ ⟨⟨rfl, by omega, by omega⟩, cond_dk ⟨m0, m1⟩ ⟨⟨rfl, by omega, by omega⟩, ?_⟩⟩
            simp only [Int.zero_add]
            refine ⟨⟨⟨trivial, trivial, trivial⟩, trivial, hS⟩, ?_⟩
            obtain ⟨b1, b2, b3, b4⟩ := shared_bd hS
            have hr := rel_all b (l k) (l m)
            refine cond_b (fun q => ?_) (fun q => ⟨⟨b1, b2, hr.lb⟩, ⟨b3, b4, hr.mb⟩, ?_⟩)
            · have : shareB b (l k) (l m) = false := by unfold shareB; rw [q]; rfl
              rw [this]
              exact ⟨rfl, rfl, rfl, rfl⟩
            · have : shareB b (l k) (l m) = true := by unfold shareB; rw [q]; rfl
              rw [this, hr.lo, hr.hi]
              exact ⟨rfl, rfl, rfl, rfl⟩)
  obtain ⟨rfl, hh⟩ := hQ
  exact ⟨h', hc, hh⟩

theorem sh14_v (hw : Wf n l b) (hn : n ≤ maxI) {k m : Int} : ∃ h', CallsV Try.prog 14 [bV b, lV n cap, I k, I m] (bH n l b) (.ret (shO n l b k m)) h' ∧ h'.at 0 = srcA n l ∧ h'.at 1 = valA n l ∧ h'.at 2 = seenA b := by
  obtain ⟨r, h', hQ, hc⟩ := of_callN (goodT4 hw) (f := 14) (args := [bV b, lV n cap, I k, I m]) (h := bH n l b)
    (K := fun r h' => r = .ret (shO n l b k m) ∧ h'.at 0 = srcA n l ∧ h'.at 1 = valA n l ∧ h'.at 2 = seenA b)
    (by
      rw [f14_ev]
      unfold shO shR shE maxI at *
      refine ⟨⟨⟨rfl, rfl, rfl⟩, rfl⟩, cond_b (fun q1 => ?_) (fun q1 => ⟨⟨⟨rfl, rfl, rfl⟩, rfl⟩, cond_b (fun q2 => ?_) (fun q2 => ?_)⟩)⟩
      · have : okB n l b = false := by simp at q1; simp [okB, q1]
        rw [this]; exact ⟨rfl, rfl, rfl, rfl⟩
      · have : okB n l b = false := by simp at q2; simp [okB, q2]
        rw [this]; exact ⟨rfl, rfl, rfl, rfl⟩
      · have hok : okB n l b = true := by simp at q1 q2; simp [okB, q1, q2]
        rw [hok]
        refine cond_r (by omega) ?_
        cases hk : inR n k with
        | false =>
          have hk' : inB k 0 ((n : Int) - 1) = false := hk
          rw [hk']
          exact ⟨rfl, rfl, rfl, rfl⟩
        | true =>
          have hk' : inB k 0 ((n : Int) - 1) = true := hk
          obtain ⟨k0, k1⟩ := inR_iff.1 hk
          rw [hk']
          refine cond_r (by omega) ?_
          cases hm : inR n m with
          | false =>
            have hm' : inB m 0 ((n : Int) - 1) = false := hm
            rw [hm']
            exact ⟨rfl, rfl, rfl, rfl⟩
          | true =>
            have hm' : inB m 0 ((n : Int) - 1) = true := hm
            obtain ⟨m0, m1⟩ := inR_iff.1 hm
            rw [hm']
            have hS : OkS n l b k m := ⟨hok, ⟨k0, k1⟩, m0, m1⟩
            refine cond_dk ⟨k0, k1⟩ ⟨⟨rfl, by omega, by omega⟩, cond_dk ⟨m0, m1⟩ ⟨⟨rfl, by omega, by omega⟩, ?_⟩⟩
            simp only [Int.zero_add]
            refine ⟨⟨⟨trivial, trivial, trivial⟩, trivial, hS⟩, fun s hs => cond_b (fun q => ?_) (fun q => ?_)⟩
            · simp at q
              rw [q]
              exact ⟨rfl, rfl, rfl, rfl⟩
            · simp at q
              rw [hs q, q]
              exact ⟨rfl, rfl, rfl, rfl⟩)
  obtain ⟨rfl, hh⟩ := hQ
  exact ⟨h', hc, hh⟩

/-- Share as a row. -/
def shT (f : FuncId) (n : Nat) (l : Int → Src) (b : Sus) : FuncId × Spec1 := (f, fun _ args h K => match args with
  | [.agg [.int .i64 g, .int .i64 p, .int .i64 s, .int .i64 t, .slice (.el 2 [] 0 0) x c], .slice (.el 0 [] 0 0) m2 c2, .int .i64 k, .int .i64 m] =>
    ((h.at 0 = srcA n l ∧ h.at 1 = valA n l ∧ h.at 2 = seenA b) ∧ [bV b, lV n c2] = [.agg [I g, I p, I s, I t, .slice (.el 2 [] 0 0) x c], .slice (.el 0 [] 0 0) m2 c2]) ∧ K (.ret (shO n l b k m)) h
  | _ => False)

theorem shT_ok {f : FuncId} (hf : ∀ (cap : Nat) (k m : Int), ∃ h', CallsV Try.prog f [bV b, lV n cap, I k, I m] (bH n l b) (.ret (shO n l b k m)) h' ∧ h'.at 0 = srcA n l ∧ h'.at 1 = valA n l ∧ h'.at 2 = seenA b) : SpOk Try.prog (shT f n l b).1 (shT f n l b).2 := by
  intro lock args h K hK
  simp only [shT] at hK
  split at hK
  · rename_i c2 k m
    obtain ⟨⟨hh, ha⟩, hK⟩ := hK
    obtain ⟨h', hc, hs⟩ := hf c2 k m
    have e : [bV b, lV n c2, I k, I m] = [bV b, lV n c2] ++ [I k, I m] := rfl
    rw [e, ha] at hc
    exact ⟨_, h, hK, lockP_refl _ _, base_lift hc hh hs rfl rfl⟩
  · exact hK.elim

/-- Reasons as a row. -/
def rs11T (n : Nat) (l : Int → Src) (b : Sus) : FuncId × Spec1 := (11, fun _ args h K => match args with
  | [.agg [.int .i64 g, .int .i64 p, .int .i64 s, .int .i64 t, .slice (.el 2 [] 0 0) x c], .slice (.el 0 [] 0 0) m2 c2, .int .i64 k] =>
    ((h.at 0 = srcA n l ∧ h.at 1 = valA n l ∧ h.at 2 = seenA b) ∧ [bV b, lV n c2] = [.agg [I g, I p, I s, I t, .slice (.el 2 [] 0 0) x c], .slice (.el 0 [] 0 0) m2 c2]) ∧ match h with
      | ⟨nx, bs⟩ => K (.ret (rsV (nx + 3) n l b k)) ⟨nx + 4, (nx + 3, vecI (rsL n l b k)) :: (nx + 2, .gone) :: (nx + 1, .gone) :: (nx, .gone) :: bs⟩
  | _ => False)

def rs12T (n : Nat) (l : Int → Src) (b : Sus) : FuncId × Spec1 := (12, fun _ args h K => match args with
  | [.agg [.int .i64 g, .int .i64 p, .int .i64 s, .int .i64 t, .slice (.el 2 [] 0 0) x c], .slice (.el 0 [] 0 0) m2 c2, .int .i64 k] =>
    ((h.at 0 = srcA n l ∧ h.at 1 = valA n l ∧ h.at 2 = seenA b) ∧ [bV b, lV n c2] = [.agg [I g, I p, I s, I t, .slice (.el 2 [] 0 0) x c], .slice (.el 0 [] 0 0) m2 c2]) ∧ match h with
      | ⟨nx, bs⟩ => K (.ret (rsV (nx + 4) n l b k)) ⟨nx + 5, (nx + 4, vecI (rsL n l b k)) :: (nx + 3, .gone) :: (nx + 2, .gone) :: (nx + 1, .gone) :: (nx, .gone) :: bs⟩
  | _ => False)

/-- Origins as a row. -/
def orT (f : FuncId) (n : Nat) (l : Int → Src) (b : Sus) : FuncId × Spec1 := (f, fun _ args h K => match args with
  | [.agg [.int .i64 g, .int .i64 p, .int .i64 s, .int .i64 t, .slice (.el 2 [] 0 0) x c], .slice (.el 0 [] 0 0) m2 c2] =>
    ((h.at 0 = srcA n l ∧ h.at 1 = valA n l ∧ h.at 2 = seenA b) ∧ [bV b, lV n c2] = [.agg [I g, I p, I s, I t, .slice (.el 2 [] 0 0) x c], .slice (.el 0 [] 0 0) m2 c2]) ∧ match h with
      | ⟨nx, bs⟩ => K (.ret (.tup [.sl (nx + 1) (orS n b l).length, .sl (nx + 2) (orP n b l).length, I (orE n b l)])) ⟨nx + 3, (nx + 2, vecP (orP n b l)) :: (nx + 1, vecI (orS n b l)) :: (nx, .gone) :: bs⟩
  | _ => False)

theorem rs11T_ok (hw : Wf n l b) (hn : n ≤ maxI) : SpOk Try.prog (rs11T n l b).1 (rs11T n l b).2 := by
  intro lock args h K hK
  simp only [rs11T] at hK
  split at hK
  · rename_i c2 k
    obtain ⟨⟨hh, ha⟩, hK⟩ := hK
    have hc := rs11_v (cap := c2) hw hn (k := k)
    have e : [bV b, lV n c2, I k] = [bV b, lV n c2] ++ [I k] := rfl
    rw [e, ha] at hc
    have h2 := base_new hc hh ⟨rfl, rfl, rfl⟩ rfl bl4
    have e2 : (VRes.ret (rsV 6 n l b k)).sh 3 h.nx = .ret (rsV (h.nx + 3) n l b k) := by
      simp [VRes.sh, VV.sh, shL, shN]; omega
    rw [e2] at h2
    exact ⟨_, _, (by cases h; exact hK), lockP_push _ _, h2⟩
  · exact hK.elim

theorem bl5 {x y z : VB} {c : VB} (i : Nat) : (VH.mk 8 [(0, x), (1, y), (2, z), (7, c)]).at (3 + i) = (([.gone, .gone, .gone, .gone, c] : List VB)[i]?).getD .free := by
  match i with
  | 0 => rfl
  | 1 => rfl
  | 2 => rfl
  | 3 => rfl
  | 4 => rfl
  | i + 5 =>
    rw [at_ge (by show ¬ 3 + (i + 5) < 8; omega)]
    rfl

theorem rs12T_ok (hw : Wf n l b) (hn : n ≤ maxI) : SpOk Try.prog (rs12T n l b).1 (rs12T n l b).2 := by
  intro lock args h K hK
  simp only [rs12T] at hK
  split at hK
  · rename_i c2 k
    obtain ⟨⟨hh, ha⟩, hK⟩ := hK
    have hc := rs12_v (cap := c2) hw hn (k := k)
    have e : [bV b, lV n c2, I k] = [bV b, lV n c2] ++ [I k] := rfl
    rw [e, ha] at hc
    have h2 := base_new hc hh ⟨rfl, rfl, rfl⟩ rfl bl5
    have e2 : (VRes.ret (rsV 7 n l b k)).sh 3 h.nx = .ret (rsV (h.nx + 4) n l b k) := by
      simp [VRes.sh, VV.sh, shL, shN]; omega
    rw [e2] at h2
    exact ⟨_, _, (by cases h; exact hK), lockP_push _ _, h2⟩
  · exact hK.elim

theorem bl3 {x y z c d : VB} (i : Nat) : (VH.mk 6 [(0, x), (1, y), (2, z), (4, c), (5, d)]).at (3 + i) = (([.gone, c, d] : List VB)[i]?).getD .free := by
  match i with
  | 0 => rfl
  | 1 => rfl
  | 2 => rfl
  | i + 3 =>
    rw [at_ge (by show ¬ 3 + (i + 3) < 6; omega)]
    rfl

theorem orT_ok {f : FuncId} (hf : ∀ cap : Nat, CallsV Try.prog f [bV b, lV n cap] (bH n l b) (.ret (.tup [.sl 4 (orS n b l).length, .sl 5 (orP n b l).length, I (orE n b l)])) (hOr n b l)) : SpOk Try.prog (orT f n l b).1 (orT f n l b).2 := by
  intro lock args h K hK
  simp only [orT] at hK
  split at hK
  · rename_i c2
    obtain ⟨⟨hh, ha⟩, hK⟩ := hK
    have hc := hf c2
    rw [ha] at hc
    have h2 := base_new hc hh ⟨rfl, rfl, rfl⟩ rfl bl3
    have e2 : (VRes.ret (.tup [.sl 4 (orS n b l).length, .sl 5 (orP n b l).length, I (orE n b l)])).sh 3 h.nx = .ret (.tup [.sl (h.nx + 1) (orS n b l).length, .sl (h.nx + 2) (orP n b l).length, I (orE n b l)]) := by
      simp [VRes.sh, VV.sh, shL, shN]; omega
    rw [e2] at h2
    exact ⟨_, _, (by cases h; exact hK), lockP_push _ _, h2⟩
  · exact hK.elim
end
end Go.Sx.Gen

/- genuine: lists that are the same, evaluated. -/

namespace Go.Sx.Gen
open Go Go.Sx Go.Proofs
set_option maxRecDepth 100000

def arrI (L : Nat) (g : Nat → Int) : VB := arrOf 1 L (fun i => [I (g i)])
def arrP (L : Nat) (g : Nat → Int × Int) : VB := arrOf 2 L (fun i => [I (g i).1, I (g i).2])
def dsI2 : List Nat := [5, 0, 1, 4]
def VI2 (L c1 c2 : Nat) (i : Int) : List VV := [I i, .slice (.el 0 [] 0 0) L c1, .slice (.el 1 [] 0 0) L c2, .bool false]
def LI17 (L c1 c2 : Nat) (A : VB) : LT := fun lock t h K =>
  FitP lock h t ⟨2, [0, 1].zip [A, A]⟩ (dsI2.zip (VI2 L c1 c2 0)) ∧ K .normal (dsI2.zip (VI2 L c1 c2 L)) ⟨2, [0, 1].zip [A, A]⟩

theorem i17_ev (L c1 c2 : Nat) (g : Nat → Int) (i : Int) (X : VEx → List VV → List VB → Prop) : codeE Try.prog (callN Try.prog noSpec noL 10 20) (fun _ => none) true 10 26 0 (loopB 0 (bodyOf Try.prog 17)) (dsI2.zip (VI2 L c1 c2 i)) ⟨2, [0, 1].zip [arrI L g, arrI L g]⟩ (obs 2 dsI2 [0, 1] X) =
  (bif decide (i < (↑L : Int)) then
 bif decide ((0 : Int) ≤ i ∧ i < (↑L : Int)) then
 (([] : List Int) = [] ∧ (0 : Int) ≤ (0 : Int) + i ∧ (0 : Int) + i < (↑L : Int)) ∧ bif decide ((0 : Int) ≤ i ∧ i < (↑L : Int)) then
 (([] : List Int) = [] ∧ (0 : Int) ≤ (0 : Int) + i ∧ (0 : Int) + i < (↑L : Int)) ∧ bif !decide (g ((0 : Int) + i).toNat = g ((0 : Int) + i).toNat) then
 X VEx.ret [I i, VV.slice (VA.el 0 [] (0 : Int) 0) L c1, VV.slice (VA.el 1 [] (0 : Int) 0) L c2, VV.bool false] [VB.arr 1 (fun ix i => ix = [] ∧ (0 : Int) ≤ i ∧ i < (↑L : Int)) fun x i => (fun i => [I (g i)]) i.toNat, VB.arr 1 (fun ix i => ix = [] ∧ (0 : Int) ≤ i ∧ i < (↑L : Int)) fun x i => (fun i => [I (g i)]) i.toNat]
 else bif inK IntKind.i64 (i + (1 : Int)) then
 X VEx.normal [I (i + (1 : Int)), VV.slice (VA.el 0 [] (0 : Int) 0) L c1, VV.slice (VA.el 1 [] (0 : Int) 0) L c2, VV.bool false] [VB.arr 1 (fun ix i => ix = [] ∧ (0 : Int) ≤ i ∧ i < (↑L : Int)) fun x i => (fun i => [I (g i)]) i.toNat, VB.arr 1 (fun ix i => ix = [] ∧ (0 : Int) ≤ i ∧ i < (↑L : Int)) fun x i => (fun i => [I (g i)]) i.toNat]
 else False
 else False
 else False
 else X (VEx.exit 0) [I i, VV.slice (VA.el 0 [] (0 : Int) 0) L c1, VV.slice (VA.el 1 [] (0 : Int) 0) L c2, VV.bool false] [VB.arr 1 (fun ix i => ix = [] ∧ (0 : Int) ≤ i ∧ i < (↑L : Int)) fun x i => (fun i => [I (g i)]) i.toNat, VB.arr 1 (fun ix i => ix = [] ∧ (0 : Int) ≤ i ∧ i < (↑L : Int)) fun x i => (fun i => [I (g i)]) i.toNat]) := by kernel_rfl

theorem i18_ev (L c1 c2 : Nat) (g : Nat → Int × Int) (i : Int) (X : VEx → List VV → List VB → Prop) : codeE Try.prog (callN Try.prog noSpec noL 10 20) (fun _ => none) true 10 26 0 (loopB 0 (bodyOf Try.prog 18)) (dsI2.zip (VI2 L c1 c2 i)) ⟨2, [0, 1].zip [arrP L g, arrP L g]⟩ (obs 2 dsI2 [0, 1] X) =
  (bif decide (i < (↑L : Int)) then
 bif decide ((0 : Int) ≤ i ∧ i < (↑L : Int)) then
 (([] : List Int) = [] ∧ (0 : Int) ≤ (0 : Int) + i ∧ (0 : Int) + i < (↑L : Int)) ∧ bif decide ((0 : Int) ≤ i ∧ i < (↑L : Int)) then
 (([] : List Int) = [] ∧ (0 : Int) ≤ (0 : Int) + i ∧ (0 : Int) + i < (↑L : Int)) ∧ bif !(decide ((g ((0 : Int) + i).toNat).fst = (g ((0 : Int) + i).toNat).fst) && (decide ((g ((0 : Int) + i).toNat).snd = (g ((0 : Int) + i).toNat).snd) && true)) then
 X VEx.ret [I i, VV.slice (VA.el 0 [] (0 : Int) 0) L c1, VV.slice (VA.el 1 [] (0 : Int) 0) L c2, VV.bool false] [VB.arr 2 (fun ix i => ix = [] ∧ (0 : Int) ≤ i ∧ i < (↑L : Int)) fun x i => (fun i => [I (g i).fst, I (g i).snd]) i.toNat, VB.arr 2 (fun ix i => ix = [] ∧ (0 : Int) ≤ i ∧ i < (↑L : Int)) fun x i => (fun i => [I (g i).fst, I (g i).snd]) i.toNat]
 else bif inK IntKind.i64 (i + (1 : Int)) then
 X VEx.normal [I (i + (1 : Int)), VV.slice (VA.el 0 [] (0 : Int) 0) L c1, VV.slice (VA.el 1 [] (0 : Int) 0) L c2, VV.bool false] [VB.arr 2 (fun ix i => ix = [] ∧ (0 : Int) ≤ i ∧ i < (↑L : Int)) fun x i => (fun i => [I (g i).fst, I (g i).snd]) i.toNat, VB.arr 2 (fun ix i => ix = [] ∧ (0 : Int) ≤ i ∧ i < (↑L : Int)) fun x i => (fun i => [I (g i).fst, I (g i).snd]) i.toNat]
 else False
 else False
 else False
 else X (VEx.exit 0) [I i, VV.slice (VA.el 0 [] (0 : Int) 0) L c1, VV.slice (VA.el 1 [] (0 : Int) 0) L c2, VV.bool false] [VB.arr 2 (fun ix i => ix = [] ∧ (0 : Int) ≤ i ∧ i < (↑L : Int)) fun x i => (fun i => [I (g i).fst, I (g i).snd]) i.toNat, VB.arr 2 (fun ix i => ix = [] ∧ (0 : Int) ≤ i ∧ i < (↑L : Int)) fun x i => (fun i => [I (g i).fst, I (g i).snd]) i.toNat]) := by kernel_rfl

theorem f17_ev (L c1 c2 : Nat) (g : Nat → Int) (Q : VRes → VH → Prop) : spBL Try.prog 17 noSpec [(0, LI17 L c1 c2 (arrI L g))] 10 20 0 [.slice (.el 0 [] 0 0) L c1, .slice (.el 1 [] 0 0) L c2] ⟨2, [(0, arrI L g), (1, arrI L g)]⟩ Q =
  (bif !decide ((↑L : Int) = (↑L : Int)) then
 Q (VRes.ret (VV.bool false)) (VH.mk (2) ([(0, VB.arr 1 (fun ix i => ix = [] ∧ (0 : Int) ≤ i ∧ i < (↑L : Int)) fun x i => (fun i => [I (g i)]) i.toNat), (1, VB.arr 1 (fun ix i => ix = [] ∧ (0 : Int) ≤ i ∧ i < (↑L : Int)) fun x i => (fun i => [I (g i)]) i.toNat)]))
 else FitP 0 (VH.mk (2) ([0, 1].zip [arrI L g, arrI L g])) (dsI2.zip (VI2 L c1 c2 (0 : Int))) (VH.mk (2) ([0, 1].zip [arrI L g, arrI L g])) (dsI2.zip (VI2 L c1 c2 (0 : Int))) ∧ Q (VRes.ret (VV.bool true)) (VH.mk (2) ([(0, VB.arr 1 (fun ix i => ix = [] ∧ (0 : Int) ≤ i ∧ i < (↑L : Int)) fun x i => (fun i => [I (g i)]) i.toNat), (1, VB.arr 1 (fun ix i => ix = [] ∧ (0 : Int) ≤ i ∧ i < (↑L : Int)) fun x i => (fun i => [I (g i)]) i.toNat)]))) := by kernel_rfl

theorem f18_ev (L c1 c2 : Nat) (g : Nat → Int × Int) (Q : VRes → VH → Prop) : spBL Try.prog 18 noSpec [(0, LI17 L c1 c2 (arrP L g))] 10 20 0 [.slice (.el 0 [] 0 0) L c1, .slice (.el 1 [] 0 0) L c2] ⟨2, [(0, arrP L g), (1, arrP L g)]⟩ Q =
  (bif !decide ((↑L : Int) = (↑L : Int)) then
 Q (VRes.ret (VV.bool false)) (VH.mk (2) ([(0, VB.arr 2 (fun ix i => ix = [] ∧ (0 : Int) ≤ i ∧ i < (↑L : Int)) fun x i => (fun i => [I (g i).fst, I (g i).snd]) i.toNat), (1, VB.arr 2 (fun ix i => ix = [] ∧ (0 : Int) ≤ i ∧ i < (↑L : Int)) fun x i => (fun i => [I (g i).fst, I (g i).snd]) i.toNat)]))
 else FitP 0 (VH.mk (2) ([0, 1].zip [arrP L g, arrP L g])) (dsI2.zip (VI2 L c1 c2 (0 : Int))) (VH.mk (2) ([0, 1].zip [arrP L g, arrP L g])) (dsI2.zip (VI2 L c1 c2 (0 : Int))) ∧ Q (VRes.ret (VV.bool true)) (VH.mk (2) ([(0, VB.arr 2 (fun ix i => ix = [] ∧ (0 : Int) ≤ i ∧ i < (↑L : Int)) fun x i => (fun i => [I (g i).fst, I (g i).snd]) i.toNat), (1, VB.arr 2 (fun ix i => ix = [] ∧ (0 : Int) ≤ i ∧ i < (↑L : Int)) fun x i => (fun i => [I (g i).fst, I (g i).snd]) i.toNat)]))) := by kernel_rfl


end Go.Sx.Gen

/- genuine: lists that are the same. -/

namespace Go.Sx.Gen
open Go Go.Sx Go.Proofs
set_option maxRecDepth 100000

section

def OI17 (L c1 c2 : Nat) (A : VB) (e : VEx) (vs : List VV) (bs : List VB) : Prop := e = .exit 0 ∧ vs = VI2 L c1 c2 L ∧ bs = [A, A]

theorem LI17_ok {L c1 c2 : Nat} {g : Nat → Int} (hL : L ≤ maxI) : LSound Try.prog true (.block 0 (.loop (loopB 0 (bodyOf Try.prog 17)))) 26 (LI17 L c1 c2 (arrI L g)) := by
  unfold maxI at hL
  refine loop_row hmix good0 (un := 10) (ds := dsI2) (ns := [0, 1]) (nx := 2) (VI2 L c1 c2) (fun _ => [arrI L g, arrI L g]) (fun i => 0 ≤ i ∧ i ≤ L) (fun i => (L - i).toNat) (fun _ => OI17 L c1 c2 (arrI L g)) noL_ok ?_ ?_
  · rintro i ⟨h0, h1⟩
    rw [i17_ev]
    by_cases hlt : i < L
    · exact cond_dk hlt (cond_dk ⟨h0, hlt⟩ ⟨⟨rfl, by omega, by omega⟩, cond_dk ⟨h0, hlt⟩ ⟨⟨rfl, by omega, by omega⟩, cond_nd (fun h => absurd rfl h) (fun _ => cond_r (by omega) ⟨i + 1, ⟨by omega, by omega⟩, by dsimp only; omega, rfl, fitBs_refl _, fun _ _ _ h => h⟩)⟩⟩)
    · refine cond_d (fun h => absurd h hlt) (fun _ => ?_)
      have : i = L := by omega
      subst this
      exact ⟨rfl, rfl, rfl⟩
  · rintro lock t h K ⟨hf, hK⟩
    refine ⟨0, hf, ⟨by omega, by omega⟩, ?_⟩
    rintro e vs bs ⟨rfl, rfl, rfl⟩
    exact hK

theorem LI18_ok {L c1 c2 : Nat} {g : Nat → Int × Int} (hL : L ≤ maxI) : LSound Try.prog true (.block 0 (.loop (loopB 0 (bodyOf Try.prog 18)))) 26 (LI17 L c1 c2 (arrP L g)) := by
  unfold maxI at hL
  refine loop_row hmix good0 (un := 10) (ds := dsI2) (ns := [0, 1]) (nx := 2) (VI2 L c1 c2) (fun _ => [arrP L g, arrP L g]) (fun i => 0 ≤ i ∧ i ≤ L) (fun i => (L - i).toNat) (fun _ => OI17 L c1 c2 (arrP L g)) noL_ok ?_ ?_
  · rintro i ⟨h0, h1⟩
    rw [i18_ev]
    by_cases hlt : i < L
    · exact cond_dk hlt (cond_dk ⟨h0, hlt⟩ ⟨⟨rfl, by omega, by omega⟩, cond_dk ⟨h0, hlt⟩ ⟨⟨rfl, by omega, by omega⟩, cond_b (fun h => by simp at h) (fun _ => cond_r (by omega) ⟨i + 1, ⟨by omega, by omega⟩, by dsimp only; omega, rfl, fitBs_refl _, fun _ _ _ h => h⟩)⟩⟩)
    · refine cond_d (fun h => absurd h hlt) (fun _ => ?_)
      have : i = L := by omega
      subst this
      exact ⟨rfl, rfl, rfl⟩
  · rintro lock t h K ⟨hf, hK⟩
    refine ⟨0, hf, ⟨by omega, by omega⟩, ?_⟩
    rintro e vs bs ⟨rfl, rfl, rfl⟩
    exact hK

theorem ints_v {L : Nat} {g : Nat → Int} (hL : L ≤ maxI) (c1 c2 : Nat) : ∃ h', CallsV Try.prog 17 [.slice (.el 0 [] 0 0) L c1, .slice (.el 1 [] 0 0) L c2] ⟨2, [(0, arrI L g), (1, arrI L g)]⟩ (.ret (.bool true)) h' := by
  have hsp := spBL_ok (sp := noSpec) hmix (fun _ _ h => absurd h (by simp [noSpec])) (f := 17) (lo_one (by kernel_rfl) (LI17_ok (c1 := c1) (c2 := c2) (g := g) hL)) (un := 10) (fu := 20)
  obtain ⟨r, h', hQ, hcc⟩ := of_sp hsp (args := [.slice (.el 0 [] 0 0) L c1, .slice (.el 1 [] 0 0) L c2]) (h := ⟨2, [(0, arrI L g), (1, arrI L g)]⟩) (K := fun r h' => r = .ret (.bool true))
    (by
      rw [f17_ev]
      exact cond_nd (fun h => absurd rfl h) (fun _ => ⟨fitP_self rfl, rfl⟩))
  subst hQ
  exact ⟨h', hcc⟩

theorem pairs_v {L : Nat} {g : Nat → Int × Int} (hL : L ≤ maxI) (c1 c2 : Nat) : ∃ h', CallsV Try.prog 18 [.slice (.el 0 [] 0 0) L c1, .slice (.el 1 [] 0 0) L c2] ⟨2, [(0, arrP L g), (1, arrP L g)]⟩ (.ret (.bool true)) h' := by
  have hsp := spBL_ok (sp := noSpec) hmix (fun _ _ h => absurd h (by simp [noSpec])) (f := 18) (lo_one (by kernel_rfl) (LI18_ok (c1 := c1) (c2 := c2) (g := g) hL)) (un := 10) (fu := 20)
  obtain ⟨r, h', hQ, hcc⟩ := of_sp hsp (args := [.slice (.el 0 [] 0 0) L c1, .slice (.el 1 [] 0 0) L c2]) (h := ⟨2, [(0, arrP L g), (1, arrP L g)]⟩) (K := fun r h' => r = .ret (.bool true))
    (by
      rw [f18_ev]
      exact cond_nd (fun h => absurd rfl h) (fun _ => ⟨fitP_self rfl, rfl⟩))
  subst hQ
  exact ⟨h', hcc⟩

def ints17T : FuncId × Spec1 := (17, fun _ args h K => match args with
  | [.sl a n1, .sl c n2] => (∃ xs : List Int, xs.length ≤ maxI ∧ n1 = xs.length ∧ n2 = xs.length ∧ h.at a = vecI xs ∧ h.at c = vecI xs) ∧ K (.ret (.bool true)) h
  | _ => False)

def pairs18T : FuncId × Spec1 := (18, fun _ args h K => match args with
  | [.sl a n1, .sl c n2] => (∃ ps : List (Int × Int), ps.length ≤ maxI ∧ n1 = ps.length ∧ n2 = ps.length ∧ h.at a = vecP ps ∧ h.at c = vecP ps) ∧ K (.ret (.bool true)) h
  | _ => False)

theorem ints17T_ok : SpOk Try.prog ints17T.1 ints17T.2 := by
  intro lock args h K hK
  simp only [ints17T] at hK
  split at hK
  · obtain ⟨⟨xs, h1, rfl, rfl, h2, h3⟩, hK⟩ := hK
    exact ⟨_, h, hK, lockP_refl _ _, view_two (ints_v (g := fun i => xs.getD i 0) h1) rfl (fun _ _ => rfl) (fun _ _ => rfl) h2 h3⟩
  · exact hK.elim

theorem pairs18T_ok : SpOk Try.prog pairs18T.1 pairs18T.2 := by
  intro lock args h K hK
  simp only [pairs18T] at hK
  split at hK
  · obtain ⟨⟨ps, h1, rfl, rfl, h2, h3⟩, hK⟩ := hK
    exact ⟨_, h, hK, lockP_refl _ _, view_two (pairs_v (g := fun i => ps.getD i (0, 0)) h1) rfl (fun _ _ => rfl) (fun _ _ => rfl) h2 h3⟩
  · exact hK.elim
end
end Go.Sx.Gen
