/- genuine: Gm1 Gm2 Gm3, in one text. -/
import Derived.Test.YtoionnljbacmkaaGK
import Derived.Test.YtoionnljbacmkaaGc3
import Derived.Test.YtoionnljbacmkaaGc1
/- genuine: GenuineOrigins, evaluated. -/

namespace Go.Sx.Gen
open Go Go.Sx Go.Proofs
set_option maxRecDepth 100000

def t5 (n : Nat) (l : Int → Src) (b : Sus) : List (FuncId × Spec1) := [awT, grT n l b, rs11T n l b, rs12T n l b, shT 13 n l b, shT 14 n l b, orT 15 n l b, orT 16 n l b, ints17T, pairs18T]

theorem law3_ev (n cap : Nat) (l : Int → Src) (b : Sus) (k m : Int) (Q : VRes → VH → Prop) : callN Try.prog (tabS (t5 n l b)) noL 10 20 0 (.fn 3) [bV b, lV n cap, I k, I m] (bH n l b) Q =
  (((srcA n l = srcA n l ∧ valA n l = valA n l ∧ seenA b = seenA b) ∧ n = n ∧ (VV.slice (VA.el 2 [] (0 : Int) 0) b.sl b.sc = VV.nils ∨ VV.slice (VA.el 2 [] (0 : Int) 0) b.sl b.sc = VV.slice (VA.el 2 [] (0 : Int) 0) b.sl b.sc)) ∧ ∀ (y : Bool), bif y then
 Q (VRes.ret (VV.bool true)) (VH.mk (4) ([(3, VB.cells [I b.glass, I b.paper, I b.slo, I b.shi, VV.slice (VA.el 2 [] (0 : Int) 0) b.sl b.sc] 26), (0, srcA n l), (1, valA n l), (2, seenA b)]))
 else ((srcA n l = srcA n l ∧ valA n l = valA n l ∧ seenA b = seenA b) ∧ [bV b, lV n cap] = [bV b, lV n cap]) ∧ ((srcA n l = srcA n l ∧ valA n l = valA n l ∧ seenA b = seenA b) ∧ [bV b, lV n cap] = [bV b, lV n cap]) ∧ ((srcA n l = srcA n l ∧ valA n l = valA n l ∧ seenA b = seenA b) ∧ [bV b, lV n cap] = [bV b, lV n cap]) ∧ ((srcA n l = srcA n l ∧ valA n l = valA n l ∧ seenA b = seenA b) ∧ [bV b, lV n cap] = [bV b, lV n cap]) ∧ ((srcA n l = srcA n l ∧ valA n l = valA n l ∧ seenA b = seenA b) ∧ [bV b, lV n cap] = [bV b, lV n cap]) ∧ ((srcA n l = srcA n l ∧ valA n l = valA n l ∧ seenA b = seenA b) ∧ [bV b, lV n cap] = [bV b, lV n cap]) ∧ (∃ xs, xs.length ≤ maxI ∧ (rsL n l b k).length = xs.length ∧ (rsL n l b k).length = xs.length ∧ (VH.mk (17 + 3 + 3) ([(17 + 3 + 2, vecP (orP n b l)), (17 + 3 + 1, vecI (orS n b l)), (17 + 3, VB.gone), (17 + 2, vecP (orP n b l)), (17 + 1, vecI (orS n b l)), (17, VB.gone), (16, VB.cells [I (shR n l b k m).ma, I (shR n l b k m).mb] 35), (15, VB.cells [I (shR n l b k m).la, I (shR n l b k m).lb] 35), (16, VB.cells [I 0, I 0] 35), (15, VB.cells [I 0, I 0] 35), (14, VB.cells [I (shR n l b k m).ma, I (shR n l b k m).mb] 35), (13, VB.cells [I (shR n l b k m).la, I (shR n l b k m).lb] 35), (14, VB.cells [I 0, I 0] 35), (13, VB.cells [I 0, I 0] 35), (4 + 4 + 4, vecI (rsL n l b k)), (4 + 4 + 3, VB.gone), (4 + 4 + 2, VB.gone), (4 + 4 + 1, VB.gone), (4 + 4, VB.gone), (4 + 3, vecI (rsL n l b k)), (4 + 2, VB.gone), (4 + 1, VB.gone), (4, VB.gone), (3, VB.cells [I b.glass, I b.paper, I b.slo, I b.shi, VV.slice (VA.el 2 [] (0 : Int) 0) b.sl b.sc] 26), (0, srcA n l), (1, valA n l), (2, seenA b)])).at (4 + 3) = vecI xs ∧ (VH.mk (17 + 3 + 3) ([(17 + 3 + 2, vecP (orP n b l)), (17 + 3 + 1, vecI (orS n b l)), (17 + 3, VB.gone), (17 + 2, vecP (orP n b l)), (17 + 1, vecI (orS n b l)), (17, VB.gone), (16, VB.cells [I (shR n l b k m).ma, I (shR n l b k m).mb] 35), (15, VB.cells [I (shR n l b k m).la, I (shR n l b k m).lb] 35), (16, VB.cells [I 0, I 0] 35), (15, VB.cells [I 0, I 0] 35), (14, VB.cells [I (shR n l b k m).ma, I (shR n l b k m).mb] 35), (13, VB.cells [I (shR n l b k m).la, I (shR n l b k m).lb] 35), (14, VB.cells [I 0, I 0] 35), (13, VB.cells [I 0, I 0] 35), (4 + 4 + 4, vecI (rsL n l b k)), (4 + 4 + 3, VB.gone), (4 + 4 + 2, VB.gone), (4 + 4 + 1, VB.gone), (4 + 4, VB.gone), (4 + 3, vecI (rsL n l b k)), (4 + 2, VB.gone), (4 + 1, VB.gone), (4, VB.gone), (3, VB.cells [I b.glass, I b.paper, I b.slo, I b.shi, VV.slice (VA.el 2 [] (0 : Int) 0) b.sl b.sc] 26), (0, srcA n l), (1, valA n l), (2, seenA b)])).at (4 + 4 + 4) = vecI xs) ∧ bif decide (rsE n l b k = rsE n l b k) then
 bif decide ((shR n l b k m).la = (shR n l b k m).la) && (decide ((shR n l b k m).lb = (shR n l b k m).lb) && true) then
 bif decide ((shR n l b k m).ma = (shR n l b k m).ma) && (decide ((shR n l b k m).mb = (shR n l b k m).mb) && true) then
 bif decide (shE n l b k m = shE n l b k m) then
 (∃ xs, xs.length ≤ maxI ∧ (orS n b l).length = xs.length ∧ (orS n b l).length = xs.length ∧ (VH.mk (17 + 3 + 3) ([(17 + 3 + 2, vecP (orP n b l)), (17 + 3 + 1, vecI (orS n b l)), (17 + 3, VB.gone), (17 + 2, vecP (orP n b l)), (17 + 1, vecI (orS n b l)), (17, VB.gone), (16, VB.cells [I (shR n l b k m).ma, I (shR n l b k m).mb] 35), (15, VB.cells [I (shR n l b k m).la, I (shR n l b k m).lb] 35), (16, VB.cells [I 0, I 0] 35), (15, VB.cells [I 0, I 0] 35), (14, VB.cells [I (shR n l b k m).ma, I (shR n l b k m).mb] 35), (13, VB.cells [I (shR n l b k m).la, I (shR n l b k m).lb] 35), (14, VB.cells [I 0, I 0] 35), (13, VB.cells [I 0, I 0] 35), (4 + 4 + 4, vecI (rsL n l b k)), (4 + 4 + 3, VB.gone), (4 + 4 + 2, VB.gone), (4 + 4 + 1, VB.gone), (4 + 4, VB.gone), (4 + 3, vecI (rsL n l b k)), (4 + 2, VB.gone), (4 + 1, VB.gone), (4, VB.gone), (3, VB.cells [I b.glass, I b.paper, I b.slo, I b.shi, VV.slice (VA.el 2 [] (0 : Int) 0) b.sl b.sc] 26), (0, srcA n l), (1, valA n l), (2, seenA b)])).at (17 + 1) = vecI xs ∧ (VH.mk (17 + 3 + 3) ([(17 + 3 + 2, vecP (orP n b l)), (17 + 3 + 1, vecI (orS n b l)), (17 + 3, VB.gone), (17 + 2, vecP (orP n b l)), (17 + 1, vecI (orS n b l)), (17, VB.gone), (16, VB.cells [I (shR n l b k m).ma, I (shR n l b k m).mb] 35), (15, VB.cells [I (shR n l b k m).la, I (shR n l b k m).lb] 35), (16, VB.cells [I 0, I 0] 35), (15, VB.cells [I 0, I 0] 35), (14, VB.cells [I (shR n l b k m).ma, I (shR n l b k m).mb] 35), (13, VB.cells [I (shR n l b k m).la, I (shR n l b k m).lb] 35), (14, VB.cells [I 0, I 0] 35), (13, VB.cells [I 0, I 0] 35), (4 + 4 + 4, vecI (rsL n l b k)), (4 + 4 + 3, VB.gone), (4 + 4 + 2, VB.gone), (4 + 4 + 1, VB.gone), (4 + 4, VB.gone), (4 + 3, vecI (rsL n l b k)), (4 + 2, VB.gone), (4 + 1, VB.gone), (4, VB.gone), (3, VB.cells [I b.glass, I b.paper, I b.slo, I b.shi, VV.slice (VA.el 2 [] (0 : Int) 0) b.sl b.sc] 26), (0, srcA n l), (1, valA n l), (2, seenA b)])).at (17 + 3 + 1) = vecI xs) ∧ (∃ ps, ps.length ≤ maxI ∧ (orP n b l).length = ps.length ∧ (orP n b l).length = ps.length ∧ (VH.mk (17 + 3 + 3) ([(17 + 3 + 2, vecP (orP n b l)), (17 + 3 + 1, vecI (orS n b l)), (17 + 3, VB.gone), (17 + 2, vecP (orP n b l)), (17 + 1, vecI (orS n b l)), (17, VB.gone), (16, VB.cells [I (shR n l b k m).ma, I (shR n l b k m).mb] 35), (15, VB.cells [I (shR n l b k m).la, I (shR n l b k m).lb] 35), (16, VB.cells [I 0, I 0] 35), (15, VB.cells [I 0, I 0] 35), (14, VB.cells [I (shR n l b k m).ma, I (shR n l b k m).mb] 35), (13, VB.cells [I (shR n l b k m).la, I (shR n l b k m).lb] 35), (14, VB.cells [I 0, I 0] 35), (13, VB.cells [I 0, I 0] 35), (4 + 4 + 4, vecI (rsL n l b k)), (4 + 4 + 3, VB.gone), (4 + 4 + 2, VB.gone), (4 + 4 + 1, VB.gone), (4 + 4, VB.gone), (4 + 3, vecI (rsL n l b k)), (4 + 2, VB.gone), (4 + 1, VB.gone), (4, VB.gone), (3, VB.cells [I b.glass, I b.paper, I b.slo, I b.shi, VV.slice (VA.el 2 [] (0 : Int) 0) b.sl b.sc] 26), (0, srcA n l), (1, valA n l), (2, seenA b)])).at (17 + 2) = vecP ps ∧ (VH.mk (17 + 3 + 3) ([(17 + 3 + 2, vecP (orP n b l)), (17 + 3 + 1, vecI (orS n b l)), (17 + 3, VB.gone), (17 + 2, vecP (orP n b l)), (17 + 1, vecI (orS n b l)), (17, VB.gone), (16, VB.cells [I (shR n l b k m).ma, I (shR n l b k m).mb] 35), (15, VB.cells [I (shR n l b k m).la, I (shR n l b k m).lb] 35), (16, VB.cells [I 0, I 0] 35), (15, VB.cells [I 0, I 0] 35), (14, VB.cells [I (shR n l b k m).ma, I (shR n l b k m).mb] 35), (13, VB.cells [I (shR n l b k m).la, I (shR n l b k m).lb] 35), (14, VB.cells [I 0, I 0] 35), (13, VB.cells [I 0, I 0] 35), (4 + 4 + 4, vecI (rsL n l b k)), (4 + 4 + 3, VB.gone), (4 + 4 + 2, VB.gone), (4 + 4 + 1, VB.gone), (4 + 4, VB.gone), (4 + 3, vecI (rsL n l b k)), (4 + 2, VB.gone), (4 + 1, VB.gone), (4, VB.gone), (3, VB.cells [I b.glass, I b.paper, I b.slo, I b.shi, VV.slice (VA.el 2 [] (0 : Int) 0) b.sl b.sc] 26), (0, srcA n l), (1, valA n l), (2, seenA b)])).at (17 + 3 + 2) = vecP ps) ∧ bif decide (orE n b l = orE n b l) then
 Q (VRes.ret (VV.bool true)) (VH.mk (17 + 3 + 3) ([(17 + 3 + 2, VB.vec (orP n b l).length (fun q => [I ((orP n b l).getD q ((0 : Int), (0 : Int))).fst, I ((orP n b l).getD q ((0 : Int), (0 : Int))).snd]) 2 (55 : TypeId)), (17 + 3 + 1, VB.vec (orS n b l).length (fun i => [I ((orS n b l).getD i (0 : Int))]) 1 (3 : TypeId)), (17 + 3, VB.gone), (17 + 2, VB.vec (orP n b l).length (fun q => [I ((orP n b l).getD q ((0 : Int), (0 : Int))).fst, I ((orP n b l).getD q ((0 : Int), (0 : Int))).snd]) 2 (55 : TypeId)), (17 + 1, VB.vec (orS n b l).length (fun i => [I ((orS n b l).getD i (0 : Int))]) 1 (3 : TypeId)), (17, VB.gone), (16, VB.cells [I (shR n l b k m).ma, I (shR n l b k m).mb] 35), (15, VB.cells [I (shR n l b k m).la, I (shR n l b k m).lb] 35), (16, VB.cells [I 0, I 0] 35), (15, VB.cells [I 0, I 0] 35), (14, VB.cells [I (shR n l b k m).ma, I (shR n l b k m).mb] 35), (13, VB.cells [I (shR n l b k m).la, I (shR n l b k m).lb] 35), (14, VB.cells [I 0, I 0] 35), (13, VB.cells [I 0, I 0] 35), (4 + 4 + 4, VB.vec (rsL n l b k).length (fun i => [I ((rsL n l b k).getD i (0 : Int))]) 1 (3 : TypeId)), (4 + 4 + 3, VB.gone), (4 + 4 + 2, VB.gone), (4 + 4 + 1, VB.gone), (4 + 4, VB.gone), (4 + 3, VB.vec (rsL n l b k).length (fun i => [I ((rsL n l b k).getD i (0 : Int))]) 1 (3 : TypeId)), (4 + 2, VB.gone), (4 + 1, VB.gone), (4, VB.gone), (3, VB.cells [I b.glass, I b.paper, I b.slo, I b.shi, VV.slice (VA.el 2 [] (0 : Int) 0) b.sl b.sc] 26), (0, srcA n l), (1, valA n l), (2, seenA b)]))
 else Q (VRes.ret (VV.bool false)) (VH.mk (17 + 3 + 3) ([(17 + 3 + 2, VB.vec (orP n b l).length (fun q => [I ((orP n b l).getD q ((0 : Int), (0 : Int))).fst, I ((orP n b l).getD q ((0 : Int), (0 : Int))).snd]) 2 (55 : TypeId)), (17 + 3 + 1, VB.vec (orS n b l).length (fun i => [I ((orS n b l).getD i (0 : Int))]) 1 (3 : TypeId)), (17 + 3, VB.gone), (17 + 2, VB.vec (orP n b l).length (fun q => [I ((orP n b l).getD q ((0 : Int), (0 : Int))).fst, I ((orP n b l).getD q ((0 : Int), (0 : Int))).snd]) 2 (55 : TypeId)), (17 + 1, VB.vec (orS n b l).length (fun i => [I ((orS n b l).getD i (0 : Int))]) 1 (3 : TypeId)), (17, VB.gone), (16, VB.cells [I (shR n l b k m).ma, I (shR n l b k m).mb] 35), (15, VB.cells [I (shR n l b k m).la, I (shR n l b k m).lb] 35), (16, VB.cells [I 0, I 0] 35), (15, VB.cells [I 0, I 0] 35), (14, VB.cells [I (shR n l b k m).ma, I (shR n l b k m).mb] 35), (13, VB.cells [I (shR n l b k m).la, I (shR n l b k m).lb] 35), (14, VB.cells [I 0, I 0] 35), (13, VB.cells [I 0, I 0] 35), (4 + 4 + 4, VB.vec (rsL n l b k).length (fun i => [I ((rsL n l b k).getD i (0 : Int))]) 1 (3 : TypeId)), (4 + 4 + 3, VB.gone), (4 + 4 + 2, VB.gone), (4 + 4 + 1, VB.gone), (4 + 4, VB.gone), (4 + 3, VB.vec (rsL n l b k).length (fun i => [I ((rsL n l b k).getD i (0 : Int))]) 1 (3 : TypeId)), (4 + 2, VB.gone), (4 + 1, VB.gone), (4, VB.gone), (3, VB.cells [I b.glass, I b.paper, I b.slo, I b.shi, VV.slice (VA.el 2 [] (0 : Int) 0) b.sl b.sc] 26), (0, srcA n l), (1, valA n l), (2, seenA b)]))
 else Q (VRes.ret (VV.bool false)) (VH.mk (17 + 3 + 3) ([(17 + 3 + 2, VB.vec (orP n b l).length (fun q => [I ((orP n b l).getD q ((0 : Int), (0 : Int))).fst, I ((orP n b l).getD q ((0 : Int), (0 : Int))).snd]) 2 (55 : TypeId)), (17 + 3 + 1, VB.vec (orS n b l).length (fun i => [I ((orS n b l).getD i (0 : Int))]) 1 (3 : TypeId)), (17 + 3, VB.gone), (17 + 2, VB.vec (orP n b l).length (fun q => [I ((orP n b l).getD q ((0 : Int), (0 : Int))).fst, I ((orP n b l).getD q ((0 : Int), (0 : Int))).snd]) 2 (55 : TypeId)), (17 + 1, VB.vec (orS n b l).length (fun i => [I ((orS n b l).getD i (0 : Int))]) 1 (3 : TypeId)), (17, VB.gone), (16, VB.cells [I (shR n l b k m).ma, I (shR n l b k m).mb] 35), (15, VB.cells [I (shR n l b k m).la, I (shR n l b k m).lb] 35), (16, VB.cells [I 0, I 0] 35), (15, VB.cells [I 0, I 0] 35), (14, VB.cells [I (shR n l b k m).ma, I (shR n l b k m).mb] 35), (13, VB.cells [I (shR n l b k m).la, I (shR n l b k m).lb] 35), (14, VB.cells [I 0, I 0] 35), (13, VB.cells [I 0, I 0] 35), (4 + 4 + 4, VB.vec (rsL n l b k).length (fun i => [I ((rsL n l b k).getD i (0 : Int))]) 1 (3 : TypeId)), (4 + 4 + 3, VB.gone), (4 + 4 + 2, VB.gone), (4 + 4 + 1, VB.gone), (4 + 4, VB.gone), (4 + 3, VB.vec (rsL n l b k).length (fun i => [I ((rsL n l b k).getD i (0 : Int))]) 1 (3 : TypeId)), (4 + 2, VB.gone), (4 + 1, VB.gone), (4, VB.gone), (3, VB.cells [I b.glass, I b.paper, I b.slo, I b.shi, VV.slice (VA.el 2 [] (0 : Int) 0) b.sl b.sc] 26), (0, srcA n l), (1, valA n l), (2, seenA b)]))
 else Q (VRes.ret (VV.bool false)) (VH.mk (17 + 3 + 3) ([(17 + 3 + 2, VB.vec (orP n b l).length (fun q => [I ((orP n b l).getD q ((0 : Int), (0 : Int))).fst, I ((orP n b l).getD q ((0 : Int), (0 : Int))).snd]) 2 (55 : TypeId)), (17 + 3 + 1, VB.vec (orS n b l).length (fun i => [I ((orS n b l).getD i (0 : Int))]) 1 (3 : TypeId)), (17 + 3, VB.gone), (17 + 2, VB.vec (orP n b l).length (fun q => [I ((orP n b l).getD q ((0 : Int), (0 : Int))).fst, I ((orP n b l).getD q ((0 : Int), (0 : Int))).snd]) 2 (55 : TypeId)), (17 + 1, VB.vec (orS n b l).length (fun i => [I ((orS n b l).getD i (0 : Int))]) 1 (3 : TypeId)), (17, VB.gone), (16, VB.cells [I (shR n l b k m).ma, I (shR n l b k m).mb] 35), (15, VB.cells [I (shR n l b k m).la, I (shR n l b k m).lb] 35), (16, VB.cells [I 0, I 0] 35), (15, VB.cells [I 0, I 0] 35), (14, VB.cells [I (shR n l b k m).ma, I (shR n l b k m).mb] 35), (13, VB.cells [I (shR n l b k m).la, I (shR n l b k m).lb] 35), (14, VB.cells [I 0, I 0] 35), (13, VB.cells [I 0, I 0] 35), (4 + 4 + 4, VB.vec (rsL n l b k).length (fun i => [I ((rsL n l b k).getD i (0 : Int))]) 1 (3 : TypeId)), (4 + 4 + 3, VB.gone), (4 + 4 + 2, VB.gone), (4 + 4 + 1, VB.gone), (4 + 4, VB.gone), (4 + 3, VB.vec (rsL n l b k).length (fun i => [I ((rsL n l b k).getD i (0 : Int))]) 1 (3 : TypeId)), (4 + 2, VB.gone), (4 + 1, VB.gone), (4, VB.gone), (3, VB.cells [I b.glass, I b.paper, I b.slo, I b.shi, VV.slice (VA.el 2 [] (0 : Int) 0) b.sl b.sc] 26), (0, srcA n l), (1, valA n l), (2, seenA b)]))
 else Q (VRes.ret (VV.bool false)) (VH.mk (17 + 3 + 3) ([(17 + 3 + 2, VB.vec (orP n b l).length (fun q => [I ((orP n b l).getD q ((0 : Int), (0 : Int))).fst, I ((orP n b l).getD q ((0 : Int), (0 : Int))).snd]) 2 (55 : TypeId)), (17 + 3 + 1, VB.vec (orS n b l).length (fun i => [I ((orS n b l).getD i (0 : Int))]) 1 (3 : TypeId)), (17 + 3, VB.gone), (17 + 2, VB.vec (orP n b l).length (fun q => [I ((orP n b l).getD q ((0 : Int), (0 : Int))).fst, I ((orP n b l).getD q ((0 : Int), (0 : Int))).snd]) 2 (55 : TypeId)), (17 + 1, VB.vec (orS n b l).length (fun i => [I ((orS n b l).getD i (0 : Int))]) 1 (3 : TypeId)), (17, VB.gone), (16, VB.cells [I (shR n l b k m).ma, I (shR n l b k m).mb] 35), (15, VB.cells [I (shR n l b k m).la, I (shR n l b k m).lb] 35), (16, VB.cells [I 0, I 0] 35), (15, VB.cells [I 0, I 0] 35), (14, VB.cells [I (shR n l b k m).ma, I (shR n l b k m).mb] 35), (13, VB.cells [I (shR n l b k m).la, I (shR n l b k m).lb] 35), (14, VB.cells [I 0, I 0] 35), (13, VB.cells [I 0, I 0] 35), (4 + 4 + 4, VB.vec (rsL n l b k).length (fun i => [I ((rsL n l b k).getD i (0 : Int))]) 1 (3 : TypeId)), (4 + 4 + 3, VB.gone), (4 + 4 + 2, VB.gone), (4 + 4 + 1, VB.gone), (4 + 4, VB.gone), (4 + 3, VB.vec (rsL n l b k).length (fun i => [I ((rsL n l b k).getD i (0 : Int))]) 1 (3 : TypeId)), (4 + 2, VB.gone), (4 + 1, VB.gone), (4, VB.gone), (3, VB.cells [I b.glass, I b.paper, I b.slo, I b.shi, VV.slice (VA.el 2 [] (0 : Int) 0) b.sl b.sc] 26), (0, srcA n l), (1, valA n l), (2, seenA b)]))
 else Q (VRes.ret (VV.bool false)) (VH.mk (17 + 3 + 3) ([(17 + 3 + 2, VB.vec (orP n b l).length (fun q => [I ((orP n b l).getD q ((0 : Int), (0 : Int))).fst, I ((orP n b l).getD q ((0 : Int), (0 : Int))).snd]) 2 (55 : TypeId)), (17 + 3 + 1, VB.vec (orS n b l).length (fun i => [I ((orS n b l).getD i (0 : Int))]) 1 (3 : TypeId)), (17 + 3, VB.gone), (17 + 2, VB.vec (orP n b l).length (fun q => [I ((orP n b l).getD q ((0 : Int), (0 : Int))).fst, I ((orP n b l).getD q ((0 : Int), (0 : Int))).snd]) 2 (55 : TypeId)), (17 + 1, VB.vec (orS n b l).length (fun i => [I ((orS n b l).getD i (0 : Int))]) 1 (3 : TypeId)), (17, VB.gone), (16, VB.cells [I (shR n l b k m).ma, I (shR n l b k m).mb] 35), (15, VB.cells [I (shR n l b k m).la, I (shR n l b k m).lb] 35), (16, VB.cells [I 0, I 0] 35), (15, VB.cells [I 0, I 0] 35), (14, VB.cells [I (shR n l b k m).ma, I (shR n l b k m).mb] 35), (13, VB.cells [I (shR n l b k m).la, I (shR n l b k m).lb] 35), (14, VB.cells [I 0, I 0] 35), (13, VB.cells [I 0, I 0] 35), (4 + 4 + 4, VB.vec (rsL n l b k).length (fun i => [I ((rsL n l b k).getD i (0 : Int))]) 1 (3 : TypeId)), (4 + 4 + 3, VB.gone), (4 + 4 + 2, VB.gone), (4 + 4 + 1, VB.gone), (4 + 4, VB.gone), (4 + 3, VB.vec (rsL n l b k).length (fun i => [I ((rsL n l b k).getD i (0 : Int))]) 1 (3 : TypeId)), (4 + 2, VB.gone), (4 + 1, VB.gone), (4, VB.gone), (3, VB.cells [I b.glass, I b.paper, I b.slo, I b.shi, VV.slice (VA.el 2 [] (0 : Int) 0) b.sl b.sc] 26), (0, srcA n l), (1, valA n l), (2, seenA b)]))) := by kernel_rfl


end Go.Sx.Gen

/- genuine: GenuineOrigins. -/

namespace Go.Sx.Gen
open Go Go.Sx Go.Proofs
set_option maxRecDepth 100000

section
variable {n cap : Nat} {l : Int → Src} {b : Sus}

theorem rsL_len {k : Int} : (rsL n l b k).length ≤ 1048576 := by
  unfold rsL
  cases hok : okB n l b with
  | false => simp
  | true =>
    cases hk : inR n k with
    | false => simp
    | true =>
      obtain ⟨k0, k1⟩ := inR_iff.1 hk
      have h1 := (okI_of hok k0 k1).2.1
      have h2 := filt_le (p := rP b (l k)) (a := 3 + (l k).vl) (i := 0)
      simp only [cond_true, reasonsF]
      omega

theorem orS_len : (orS n b l).length ≤ 1048576 := by
  unfold orS
  cases hok : okB n l b with
  | false => simp
  | true =>
    have h1 := okB_n hok
    have h2 := filt_le (p := fitB1 b l) (a := n) (i := 0)
    simp only [cond_true]
    omega

theorem pairsF_len : ∀ {m : Nat} {i : Int}, 0 ≤ i → (pairsF n b l m i).length ≤ m * n
  | 0, _, _ => by simp [pairsF]
  | m + 1, i, h => by
    have h1 := pairsF_len (m := m) (i := i + 1) (by omega)
    have h2 := pairs1_len (n := n) (b := b) (l := l) (i := i) (k := i + 1)
    simp only [pairsF, List.length_append]
    rw [Nat.succ_mul]
    have h3 : (bif fitB1 b l i then [] else pairs1 n b l i (i + 1)).length ≤ n := by
      cases fitB1 b l i with
      | true => simp
      | false => simp only [cond_false]; omega
    omega

theorem orP_len : (orP n b l).length ≤ 1048576 := by
  unfold orP
  cases hok : okB n l b with
  | false => simp
  | true =>
    have h1 := okB_n hok
    have h2 := pairsF_len (n := n) (b := b) (l := l) (m := n) (i := 0) (Int.le_refl 0)
    have h3 : n * n ≤ 64 * 64 := Nat.mul_le_mul h1 h1
    simp only [cond_true]
    omega

theorem t5_ok (hw : Wf n l b) : ∀ x ∈ t5 n l b, SpOk Try.prog x.1 x.2 := by
  intro x hx
  simp only [t5, List.mem_cons, List.not_mem_nil, or_false] at hx
  rcases hx with rfl | rfl | rfl | rfl | rfl | rfl | rfl | rfl | rfl | rfl
  · exact awT_ok
  · exact grT_ok hw
  · exact rs11T_ok hw hw.hn
  · exact rs12T_ok hw hw.hn
  · exact shT_ok (fun cap k m => sh13_v hw hw.hn)
  · exact shT_ok (fun cap k m => sh14_v hw hw.hn)
  · exact orT_ok (fun cap => or15_v hw)
  · exact orT_ok (fun cap => or16_v hw)
  · exact ints17T_ok
  · exact pairs18T_ok

theorem law3_v (hw : Wf n l b) (k m : Int) : ∃ h', CallsV Try.prog 3 [bV b, lV n cap, I k, I m] (bH n l b) (.ret (.bool true)) h' := by
  obtain ⟨r, h', hQ, hc⟩ := of_callN (tab_good (unroll := 10) hmix (t5_ok hw) 20) (f := 3) (args := [bV b, lV n cap, I k, I m]) (h := bH n l b) (K := fun r _ => r = .ret (.bool true))
    (by
      rw [law3_ev]
      have h1 : (rsL n l b k).length ≤ maxI := Nat.le_trans rsL_len (by unfold maxI; omega)
      have h2 : (orS n b l).length ≤ maxI := Nat.le_trans orS_len (by unfold maxI; omega)
      have h3 : (orP n b l).length ≤ maxI := Nat.le_trans orP_len (by unfold maxI; omega)
      refine ⟨⟨⟨rfl, rfl, rfl⟩, rfl, .inr rfl⟩, fun y => cond_b (fun _ => rfl) (fun _ => ⟨⟨⟨rfl, rfl, rfl⟩, rfl⟩, ⟨⟨rfl, rfl, rfl⟩, rfl⟩, ⟨⟨rfl, rfl, rfl⟩, rfl⟩, ⟨⟨rfl, rfl, rfl⟩, rfl⟩, ⟨⟨rfl, rfl, rfl⟩, rfl⟩, ⟨⟨rfl, rfl, rfl⟩, rfl⟩, ⟨_, h1, rfl, rfl, rfl, rfl⟩, ?_⟩)⟩
      refine cond_dk rfl (cond_k (by simp) (cond_k (by simp) (cond_dk rfl ⟨⟨_, h2, rfl, rfl, rfl, rfl⟩, ⟨_, h3, rfl, rfl, rfl, rfl⟩, cond_dk rfl rfl⟩))))
  subst hQ
  exact ⟨h', hc⟩
end
end Go.Sx.Gen

/- genuine: a suspect read. -/

namespace Go.Sx.Gen
open Go Go.Sx Go.Proofs Go.RowKit
set_option maxRecDepth 100000

section
variable {H : Type} {enc : TypeId × Value → H} {W : World} {base : Nat} {spare : Nat → Bool} {held : Bool}


theorem read_sus {r : Go.Reach} {b0 : Nat} {v : Value} {d : DataW H} {ps : List MemPlace} (hval : Value.okWide Try.prog W r b0 26 v) (hd : DataW.Trod enc Try.prog W base spare held 26 v d ps) :
    ∃ (b : Sus) (sv : Value) (ab : Addr), v = .agg #[.int .i64 b.glass, .int .i64 b.paper, .int .i64 b.slo, .int .i64 b.shi, sv] ∧ SpansIn W sv b.sl b.sc b.lo b.hi ab := by
  obtain ⟨fs, ht⟩ := isStr_of str26
  obtain ⟨cs, rfl⟩ := okWide_agg ht hval
  obtain ⟨fuel, hf⟩ := hd
  obtain ⟨hl, hg⟩ := leaves_trod _ _ _ leaves26 _ _ _ hf
  obtain ⟨m0, v0, y0, g0, k0⟩ := hg 0 3 rfl
  obtain ⟨m1, v1, y1, g1, k1⟩ := hg 1 3 rfl
  obtain ⟨m2, v2, y2, g2, k2⟩ := hg 2 3 rfl
  obtain ⟨m3, v3, y3, g3, k3⟩ := hg 3 3 rfl
  obtain ⟨m4, v4, y4, g4, k4⟩ := hg 4 24 rfl
  obtain ⟨n0, rfl, _⟩ := leaf_int und3 k0
  obtain ⟨n1, rfl, _⟩ := leaf_int und3 k1
  obtain ⟨n2, rfl, _⟩ := leaf_int und3 k2
  obtain ⟨n3, rfl, _⟩ := leaf_int und3 k3
  obtain ⟨vl, vc, lo, hi, a', hs⟩ := read_spans k4
  refine ⟨⟨n0, n1, n2, n3, vl, vc, lo, hi⟩, v4, a', ?_, hs⟩
  congr 1
  apply Array.ext'
  have hc : (Value.cells (.agg cs)).toList = cs.toList := by simp [Value.cells]
  rw [hc] at hl g0 g1 g2 g3 g4
  obtain ⟨l⟩ := cs
  match l, hl with
  | [c0, c1, c2, c3, c4], _ =>
    simp at g0 g1 g2 g3 g4
    subst g0 g1 g2 g3 g4
    rfl
end

theorem sus_rel {W : World} {sv : Value} {b : Sus} {a ab : Addr} {av : Nat → Addr} (h : SpansIn W sv b.sl b.sc b.lo b.hi ab) : VRel (R3 a av ab) (bV b) (.agg #[.int .i64 b.glass, .int .i64 b.paper, .int .i64 b.slo, .int .i64 b.shi, sv]) :=
  ⟨[_, _, _, _, sv], ⟨_, _, rfl, ⟨_, _, rfl, ⟨_, _, rfl, ⟨_, _, rfl, ⟨_, _, spans_rel h rfl, rfl, rfl⟩, rfl⟩, rfl⟩, rfl⟩, rfl⟩, rfl⟩
end Go.Sx.Gen
