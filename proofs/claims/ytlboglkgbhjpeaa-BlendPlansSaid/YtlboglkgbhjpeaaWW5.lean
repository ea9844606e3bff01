/- stream: Ob1 Ob2 Oa2 Oa3 Oa4 Mb2 Ce3 Cf3 Cg3 Cn3 Co3 Ce4, in one text. -/
import Derived.Test.YtlboglkgbhjpeaaWW4
import Derived.Test.YtlboglkgbhjpeaaWW3
import Derived.Test.YtlboglkgbhjpeaaWW2
namespace Go.Sx.Bln
open Go Go.Sx Go.Proofs
set_option maxRecDepth 1000000
def dsLe:List Nat:=[6,5,0,1]
def VLe (l:List Stk) (a c:Nat->Int) (i:Nat):List VV:=[I i,.sl 0 i,chaD l a,chaD l c]
def gLe (a c:Nat->Int):Nat->List VV:=fun j=>[I (a j - c j)]
theorem le_ev (l:List Stk) (a c:Nat->Int) (i:Nat) (X:VEx->List VV->List VB->Prop):codeE Try.prog (callN Try.prog noSpec noL 10 20) (fun _=>none) true 10 (ntOf Try.prog 78) 0 (loopB 0 (bodyOf Try.prog 78)) (dsLe.zip (VLe l a c i)) ⟨1,[0].zip [.vec i (gLe a c) 1 3]⟩ (obs 1 dsLe [0] X) =
 (bif decide ((↑i:Int)<(↑l.length:Int)) then
 bif decide ((0:Int)<=(↑i:Int)/\(↑i:Int)<(↑l.length:Int)) then
 bif decide ((0:Int)<=(↑i:Int)/\(↑i:Int)<(↑l.length:Int)) then
 bif inK IntKind.i64 (a (↑i:Int).toNat - c (↑i:Int).toNat) then
 bif i.beq i then
 bif roomB (i+1) (8) then
 bif inK IntKind.i64 ((↑i:Int)+(1:Int)) then
 X VEx.normal [I ((↑i:Int)+(1:Int)),VV.sl 0 (i+1),VV.tl l.length 1 (chG a),VV.tl l.length 1 (chG c)] [VB.vec (i+1) (catG i (gLe a c) fun (j:Nat)=>List.take (1) (List.drop (j*(1)) [I (a (↑i:Int).toNat - c (↑i:Int).toNat)])) (1) 3]
 else False
 else False
 else False
 else False
 else False
 else False
 else X (VEx.exit 0) [I (↑i:Int),VV.sl 0 i,VV.tl l.length 1 (chG a),VV.tl l.length 1 (chG c)] [VB.vec i (gLe a c) 1 (3:TypeId)]):=by kernel_rfl
def lLe (l:List Stk) (a c:Nat->Int):LT:=fun lock tt h K=>
 FitP lock h tt ⟨1,[0].zip [.vec 0 (gLe a c) 1 3]⟩ (dsLe.zip (VLe l a c 0))/\K .normal (dsLe.zip (VLe l a c l.length)) ⟨1,[0].zip [.vec l.length (gLe a c) 1 3]⟩
theorem lef_ev (l:List Stk) (a c:Nat->Int) (Q:VRes->VH->Prop):callN Try.prog noSpec (atF 78 [(0,lLe l a c)]) 10 20 0 (.fn 78) [chaD l a,chaD l c] ⟨0,[]⟩ (fun r h=>Q r h) =
 (FitP 0 (VH.mk (0+1) [(0,VB.vec 0 (fun (j:Nat)=>List.take (1) (List.drop (j*(1)) [])) (1) 3)]) [(6,I 0),(5,VV.sl 0 0),(7,VV.sl 0 0),(4,VV.nils),(0,chaD l a),(1,chaD l c)] (VH.mk 1 ([0].zip [VB.vec 0 (gLe a c) 1 (3:TypeId)])) (dsLe.zip (VLe l a c 0))/\Q (VRes.ret (VV.sl 0 l.length)) (VH.mk 1 [(0,VB.vec l.length (gLe a c) 1 (3:TypeId))])):=by kernel_rfl
def lRPj (p:List (List Int)) (i:Nat):LT:=fun lock tt h K=>
 FitP lock h tt ⟨0,([]:List Nat).zip []⟩ (dsRPi.zip (VRPi p i 0))/\(i<p.length/\(p.getD i []).length<=100000)/\(anyNd (p.getD i [])=false->K .normal (dsRPi.zip (VRPi p i (p.getD i []).length)) ⟨0,([]:List Nat).zip []⟩)/\∀ k:Nat,anyNd (p.getD i [])=true->K .ret (dsRPi.zip (VRPi p i k)) ⟨0,([]:List Nat).zip []⟩
theorem rpp_ev (p:List (List Int)) (i:Nat) (X:VEx->List VV->List VB->Prop):codeE Try.prog (callN Try.prog noSpec noL 10 20) (tabB [(2,lRPj p i)]) true 10 (ntOf Try.prog 33) 0 (loopB 0 (bodyOf Try.prog 33)) (dsRPo.zip (VRPo p i)) ⟨0,([]:List Nat).zip []⟩ (obs 0 dsRPo [] X) =
 (bif decide ((↑i:Int)<(↑p.length:Int)) then
 bif decide ((0:Int)<=(↑i:Int)/\(↑i:Int)<(↑p.length:Int)) then
 bif decide ((0:Int)<=(0:Int)/\(0:Int)<(↑p.length:Int)) then
 bif !decide ((↑(p.getD (↑i:Int).toNat []).length:Int)=(↑(p.getD (Int.toNat (0:Int)) []).length:Int)) then
 X VEx.ret [I (↑i:Int),VV.bool false,pthD p] []
 else FitP 0 (VH.mk 0 ([].zip [])) (dsRPi.zip (VRPi p i 0)) (VH.mk 0 ([].zip [])) (dsRPi.zip (VRPi p i 0))/\(i<p.length/\(p.getD i []).length<=100000)/\(anyNd (p.getD i [])=false->bif inK IntKind.i64 ((↑i:Int)+(1:Int)) then
 X VEx.normal [I ((↑i:Int)+(1:Int)),VV.bool false,pthD p] []
 else False)/\∀ (k:Nat),anyNd (p.getD i [])=true->X VEx.ret [I (↑i:Int),VV.bool false,pthD p] []
 else False
 else False
 else X (VEx.exit 0) [I (↑i:Int),VV.bool false,pthD p] []):=by kernel_rfl
def lRPp (p:List (List Int)):LT:=fun lock tt h K=>
 FitP lock h tt ⟨0,([]:List Nat).zip []⟩ (dsRPo.zip (VRPo p 0))/\pthB p/\(anyPt p=false->K .normal (dsRPo.zip (VRPo p p.length)) ⟨0,([]:List Nat).zip []⟩)/\∀ i,anyPt p=true->K .ret (dsRPo.zip (VRPo p i)) ⟨0,([]:List Nat).zip []⟩
theorem rpq_ev (p:List (List Int)) (Q:VRes->Prop):callN Try.prog noSpec (atF 33 [(0,lRPp p)]) 10 20 0 (.fn 33) [pthD p] ⟨0,[]⟩ (fun r _=>Q r) =
 (bif decide ((1:Int)<=(↑p.length:Int)) then
 bif !decide ((↑p.length:Int)<=(4:Int)) then
 Q (VRes.ret (VV.bool false))
 else bif decide ((0:Int)<=(0:Int)/\(0:Int)<(↑p.length:Int)) then
 bif decide ((1:Int)<=(↑(p.getD (Int.toNat (0:Int)) []).length:Int)) then
 bif !decide ((↑(p.getD (Int.toNat (0:Int)) []).length:Int)<=(4:Int)) then
 Q (VRes.ret (VV.bool false))
 else FitP 0 (VH.mk 0 ([].zip [])) (dsRPo.zip (VRPo p 0)) (VH.mk 0 ([].zip [])) (dsRPo.zip (VRPo p 0))/\pthB p/\(anyPt p=false->Q (VRes.ret (VV.bool true)))/\∀ (i:Nat),anyPt p=true->Q (VRes.ret (VV.bool false))
 else Q (VRes.ret (VV.bool false))
 else False
 else Q (VRes.ret (VV.bool false))):=by kernel_rfl
def dsRQ:List Nat:=[9,8,7,6,4,0,1,2]
def VRQ (l:List Stk) (t:Tst) (p:List (List Int)) (i:Nat):List VV:=[I i,.sl 1 i,I 0,.nils,.ptr (.own 0 0),stD l,.agg (tsL t),pthD p]
def BRQ (t:Tst) (i:Nat):List VB:=[.cells (tsL t) 25,.vec i (uS id) 1 3]
theorem rq21_ev (l:List Stk) (t:Tst) (p:List (List Int)) (i:Nat) (X:VEx->List VV->List VB->Prop):codeE Try.prog (callN Try.prog noSpec noL 10 20) (fun _=>none) true 10 (ntOf Try.prog 21) 0 (loopB 0 (bodyOf Try.prog 21)) (dsRQ.zip (VRQ l t p i)) ⟨2,[0,1].zip (BRQ t i)⟩ (obs 2 dsRQ [0,1] X) =
 (bif decide ((↑i:Int)<(↑p.length:Int)) then
 bif i.beq i then
 bif roomB (i+1) (8) then
 bif inK IntKind.i64 ((↑i:Int)+(1:Int)) then
 X VEx.normal [I ((↑i:Int)+(1:Int)),VV.sl 1 (i+1),I 0,VV.nils,VV.ptr (VA.own 0 0),stD l,VV.agg (tsL t),pthD p] [VB.cells (tsL t) (25:TypeId),VB.vec (i+1) (catG i (uS id) fun (j:Nat)=>List.take (1) (List.drop (j*(1)) [I (↑i:Int)])) (1) 3]
 else False
 else False
 else False
 else X (VEx.exit 0) [I (↑i:Int),VV.sl 1 i,I 0,VV.nils,VV.ptr (VA.own 0 0),stD l,VV.agg (tsL t),pthD p] [VB.cells (tsL t) (25:TypeId),VB.vec i (uS id) 1 (3:TypeId)]):=by kernel_rfl
def lRQ (l:List Stk) (t:Tst) (p:List (List Int)):LT:=fun lock tt h K=>
 FitP lock h tt ⟨1,[0].zip [.cells (tsL t) 25]⟩ (dsRQ.zip (I 0::.nils::(VRQ l t p 0).drop 2))/\p.length<=100/\K .normal (dsRQ.zip (VRQ l t p p.length)) ⟨2,[0,1].zip (BRQ t p.length)⟩
def rpG (p:List (List Int)):FuncId × Spec1:=(33,fun _ args h K=>match args with
 | [x]=>isD h 4 x (pthD p)/\(p=[] ∨ pthB p)/\K (.ret (.bool (okPaths p))) h
 | _=>False)
def ckD (l:List Stk):FuncId × Spec1:=(51,fun _ args h K=>match args with
 | [x]=>x=stD l/\l.length<=6/\K (.ret (chaD l (mostF l))) h
 | _=>False)
def plnS (l:List Stk) (t:Tst) (p:List (List Int)):FuncId × Spec1:=(50,fun lock args h K=>match args,h with
 | [x,z,q,.sl m L,.int .i64 y,w],⟨nx,bs⟩=>x=stD l/\z=.agg (tsL t)/\q=pthD p/\w=chaD l (mostF l)/\(lock=0/\∃ (g:Nat->List VV) (ty:TypeId),(VH.mk nx bs).at m=.vec L g 1 ty/\L=p.length/\(∀ j,j<L->g j=uS id j))/\(y=0/\okAll l t=true/\okPaths p=true) /\
   (planF l t p (p.getD 0 []).length (p.getD 0 []).length (2 ^ p.length - 1) (mostF l)=none->K (.ret (.tup [.nils,.bool false])) ⟨nx,(m,.gone)::bs⟩)/\∀ x:Rsl,planF l t p (p.getD 0 []).length (p.getD 0 []).length (2 ^ p.length - 1) (mostF l)=some x->K (.ret (.tup [plnD l.length p.length (p.getD 0 []).length x,.bool true])) ⟨nx,(m,.gone)::bs⟩
 | _,_=>False)
theorem rqf21_ev (l:List Stk) (t:Tst) (p:List (List Int)) (Q:VRes->Prop):callN Try.prog (tabS [rtR t,rsR l t,rpG p,ckD l,plnS l t p]) (atF 21 [(0,lRQ l t p)]) 10 20 0 (.fn 21) [stD l,.agg (tsL t),pthD p] ⟨0,[]⟩ (fun r h=>Q r) =
 (isD (VH.mk (0+1) [(0,VB.cells (tsL t) 25)]) 3 (VV.agg (tsL t)) (VV.agg (tsL t))/\t.T.length<=100000/\bif !okT t then
 Q (VRes.ret (VV.tup [VV.nils,I 1]))
 else isD (VH.mk (0+1) [(0,VB.cells (tsL t) 25)]) 3 (stD l) (stD l)/\isD (VH.mk (0+1) [(0,VB.cells (tsL t) 25)]) 3 (VV.agg (tsL t)) (VV.agg (tsL t))/\(l.length<=100000/\t.T.length<=100000)/\bif !(decide (l.length<=6) && !anyS l t) then
 Q (VRes.ret (VV.tup [VV.nils,I 1]))
 else isD (VH.mk (0+1) [(0,VB.cells (tsL t) 25)]) 4 (pthD p) (pthD p)/\(p=[] ∨ pthB p)/\bif !okPaths p then
 Q (VRes.ret (VV.tup [VV.nils,I 2]))
 else FitP 0 (VH.mk 1 ([0].zip [VB.cells (tsL t) (25:TypeId)])) (dsRQ.zip (I 0::VV.nils::List.drop 2 (VRQ l t p 0))) (VH.mk 1 ([0].zip [VB.cells (tsL t) (25:TypeId)])) (dsRQ.zip (I 0::VV.nils::List.drop 2 (VRQ l t p 0)))/\p.length<=100/\stD l=stD l/\l.length<=6/\stD l=stD l/\VV.agg (tsL t)=VV.agg (tsL t)/\pthD p=pthD p/\chaD l (mostF l)=chaD l (mostF l)/\(0=0/\∃ (g:Nat->List VV),∃ (ty:TypeId),(VH.mk 2 ([0,1].zip (BRQ t p.length))).at 1=VB.vec p.length g 1 ty/\p.length=p.length/\∀ (j:Nat),j<p.length->g j=uS id j)/\((0:Int)=(0:Int)/\okAll l t=true/\okPaths p=true)/\(planF l t p (p.getD 0 []).length (p.getD 0 []).length (2 ^ p.length - 1) (mostF l)=none->Q (VRes.ret (VV.tup [VV.nils,I 4])))/\∀ (x:Rsl),planF l t p (p.getD 0 []).length (p.getD 0 []).length (2 ^ p.length - 1) (mostF l)=some x->Q (VRes.ret (VV.tup [VV.tl p.length 1 (plnG l.length (p.getD 0 []).length x),I 0]))):=by kernel_rfl
def rpl1 (l:List Stk) (t:Tst):FuncId × Spec1:=(21,fun _ args h K=>match args with
 | [x,z,w]=>isD h 4 x (stD l)/\isD h 4 z (.agg (tsL t))/\∃ d:List Int,isD h 4 w (pthD [d])/\(l.length<=100000/\t.T.length<=100000/\d.length<=100000)/\∀ e:Int,e=plE l t [d]->K (.ret (.tup [.any,I e])) h
 | _=>False)
theorem rla_ev (l:List Stk) (t:Tst) (m:Int) (Q:VRes->Prop):callN Try.prog (tabS [rtR t,rsR l t,rpl1 l t]) noL 10 20 0 (.fn 23) [stD l,.agg (tsL t),I m] ⟨0,[]⟩ (fun r _=>Q r) =
 (isD (VH.mk (0+1) [(0,VB.cells (tsL t) 25)]) 3 (VV.agg (tsL t)) (VV.agg (tsL t))/\t.T.length<=100000/\bif !okT t then
 Q (VRes.ret (VV.tup [I 0,I 1]))
 else isD (VH.mk (0+1) [(0,VB.cells (tsL t) 25)]) 3 (stD l) (stD l)/\isD (VH.mk (0+1) [(0,VB.cells (tsL t) 25)]) 3 (VV.agg (tsL t)) (VV.agg (tsL t))/\(l.length<=100000/\t.T.length<=100000)/\bif !(decide (l.length<=6) && !anyS l t) then
 Q (VRes.ret (VV.tup [I 0,I 1]))
 else bif decide ((0:Int)<=m) then
 bif !decide (m<=(1048576:Int)) then
 Q (VRes.ret (VV.tup [I 0,I 2]))
 else isD (VH.mk (4) [(3,VB.cells [VV.sl (2) 1] 23),(2,VB.vec 1 (fun (j:Nat)=>List.take (1) (List.drop (j*(1)) [I m])) (1) 3),(1,VB.vec 1 (fun (j:Nat)=>List.take (1) (List.drop (j*(1)) [I m])) (1) 3),(0,VB.cells (tsL t) 25)]) 4 (stD l) (stD l)/\isD (VH.mk (4) [(3,VB.cells [VV.sl (2) 1] 23),(2,VB.vec 1 (fun (j:Nat)=>List.take (1) (List.drop (j*(1)) [I m])) (1) 3),(1,VB.vec 1 (fun (j:Nat)=>List.take (1) (List.drop (j*(1)) [I m])) (1) 3),(0,VB.cells (tsL t) 25)]) 4 (VV.agg (tsL t)) (VV.agg (tsL t))/\∃ (d:List Int),isD (VH.mk (4) [(3,VB.cells [VV.sl (2) 1] 23),(2,VB.vec 1 (fun (j:Nat)=>List.take (1) (List.drop (j*(1)) [I m])) (1) 3),(1,VB.vec 1 (fun (j:Nat)=>List.take (1) (List.drop (j*(1)) [I m])) (1) 3),(0,VB.cells (tsL t) 25)]) 4 (VV.slice (VA.own (3) 0) 1 1) (pthD [d])/\(l.length<=100000/\t.T.length<=100000/\d.length<=100000)/\∀ (e:Int),e=plE l t [d]->bif !decide (e=(0:Int)) then
 Q (VRes.ret (VV.tup [I 0,I 0]))
 else isD (VH.mk (6) [(5,VB.cells [VV.sl (2) (1+1)] 23),(2,VB.vec (1+1) (catG 1 (fun (j:Nat)=>List.take (1) (List.drop (j*(1)) [I m])) fun (j:Nat)=>List.take (1) (List.drop (j*(1)) [I m])) (1) 3),(4,VB.vec 1 (fun (j:Nat)=>List.take (1) (List.drop (j*(1)) [I m])) (1) 3),(3,VB.cells [VV.sl (2) 1] 23),(2,VB.vec 1 (fun (j:Nat)=>List.take (1) (List.drop (j*(1)) [I m])) (1) 3),(1,VB.vec 1 (fun (j:Nat)=>List.take (1) (List.drop (j*(1)) [I m])) (1) 3),(0,VB.cells (tsL t) 25)]) 4 (stD l) (stD l)/\isD (VH.mk (6) [(5,VB.cells [VV.sl (2) (1+1)] 23),(2,VB.vec (1+1) (catG 1 (fun (j:Nat)=>List.take (1) (List.drop (j*(1)) [I m])) fun (j:Nat)=>List.take (1) (List.drop (j*(1)) [I m])) (1) 3),(4,VB.vec 1 (fun (j:Nat)=>List.take (1) (List.drop (j*(1)) [I m])) (1) 3),(3,VB.cells [VV.sl (2) 1] 23),(2,VB.vec 1 (fun (j:Nat)=>List.take (1) (List.drop (j*(1)) [I m])) (1) 3),(1,VB.vec 1 (fun (j:Nat)=>List.take (1) (List.drop (j*(1)) [I m])) (1) 3),(0,VB.cells (tsL t) 25)]) 4 (VV.agg (tsL t)) (VV.agg (tsL t))/\∃ (d:List Int),isD (VH.mk (6) [(5,VB.cells [VV.sl (2) (1+1)] 23),(2,VB.vec (1+1) (catG 1 (fun (j:Nat)=>List.take (1) (List.drop (j*(1)) [I m])) fun (j:Nat)=>List.take (1) (List.drop (j*(1)) [I m])) (1) 3),(4,VB.vec 1 (fun (j:Nat)=>List.take (1) (List.drop (j*(1)) [I m])) (1) 3),(3,VB.cells [VV.sl (2) 1] 23),(2,VB.vec 1 (fun (j:Nat)=>List.take (1) (List.drop (j*(1)) [I m])) (1) 3),(1,VB.vec 1 (fun (j:Nat)=>List.take (1) (List.drop (j*(1)) [I m])) (1) 3),(0,VB.cells (tsL t) 25)]) 4 (VV.slice (VA.own (5) 0) 1 1) (pthD [d])/\(l.length<=100000/\t.T.length<=100000/\d.length<=100000)/\∀ (e:Int),e=plE l t [d]->bif !decide (e=(0:Int)) then
 Q (VRes.ret (VV.tup [I ((0:Int)+(1:Int)),I 0]))
 else isD (VH.mk (8) [(7,VB.cells [VV.sl (2) (1+1+1)] 23),(2,VB.vec (1+1+1) (catG (1+1) (catG 1 (fun (j:Nat)=>List.take (1) (List.drop (j*(1)) [I m])) fun (j:Nat)=>List.take (1) (List.drop (j*(1)) [I m])) fun (j:Nat)=>List.take (1) (List.drop (j*(1)) [I m])) (1) 3),(6,VB.vec 1 (fun (j:Nat)=>List.take (1) (List.drop (j*(1)) [I m])) (1) 3),(5,VB.cells [VV.sl (2) (1+1)] 23),(2,VB.vec (1+1) (catG 1 (fun (j:Nat)=>List.take (1) (List.drop (j*(1)) [I m])) fun (j:Nat)=>List.take (1) (List.drop (j*(1)) [I m])) (1) 3),(4,VB.vec 1 (fun (j:Nat)=>List.take (1) (List.drop (j*(1)) [I m])) (1) 3),(3,VB.cells [VV.sl (2) 1] 23),(2,VB.vec 1 (fun (j:Nat)=>List.take (1) (List.drop (j*(1)) [I m])) (1) 3),(1,VB.vec 1 (fun (j:Nat)=>List.take (1) (List.drop (j*(1)) [I m])) (1) 3),(0,VB.cells (tsL t) 25)]) 4 (stD l) (stD l)/\isD (VH.mk (8) [(7,VB.cells [VV.sl (2) (1+1+1)] 23),(2,VB.vec (1+1+1) (catG (1+1) (catG 1 (fun (j:Nat)=>List.take (1) (List.drop (j*(1)) [I m])) fun (j:Nat)=>List.take (1) (List.drop (j*(1)) [I m])) fun (j:Nat)=>List.take (1) (List.drop (j*(1)) [I m])) (1) 3),(6,VB.vec 1 (fun (j:Nat)=>List.take (1) (List.drop (j*(1)) [I m])) (1) 3),(5,VB.cells [VV.sl (2) (1+1)] 23),(2,VB.vec (1+1) (catG 1 (fun (j:Nat)=>List.take (1) (List.drop (j*(1)) [I m])) fun (j:Nat)=>List.take (1) (List.drop (j*(1)) [I m])) (1) 3),(4,VB.vec 1 (fun (j:Nat)=>List.take (1) (List.drop (j*(1)) [I m])) (1) 3),(3,VB.cells [VV.sl (2) 1] 23),(2,VB.vec 1 (fun (j:Nat)=>List.take (1) (List.drop (j*(1)) [I m])) (1) 3),(1,VB.vec 1 (fun (j:Nat)=>List.take (1) (List.drop (j*(1)) [I m])) (1) 3),(0,VB.cells (tsL t) 25)]) 4 (VV.agg (tsL t)) (VV.agg (tsL t))/\∃ (d:List Int),isD (VH.mk (8) [(7,VB.cells [VV.sl (2) (1+1+1)] 23),(2,VB.vec (1+1+1) (catG (1+1) (catG 1 (fun (j:Nat)=>List.take (1) (List.drop (j*(1)) [I m])) fun (j:Nat)=>List.take (1) (List.drop (j*(1)) [I m])) fun (j:Nat)=>List.take (1) (List.drop (j*(1)) [I m])) (1) 3),(6,VB.vec 1 (fun (j:Nat)=>List.take (1) (List.drop (j*(1)) [I m])) (1) 3),(5,VB.cells [VV.sl (2) (1+1)] 23),(2,VB.vec (1+1) (catG 1 (fun (j:Nat)=>List.take (1) (List.drop (j*(1)) [I m])) fun (j:Nat)=>List.take (1) (List.drop (j*(1)) [I m])) (1) 3),(4,VB.vec 1 (fun (j:Nat)=>List.take (1) (List.drop (j*(1)) [I m])) (1) 3),(3,VB.cells [VV.sl (2) 1] 23),(2,VB.vec 1 (fun (j:Nat)=>List.take (1) (List.drop (j*(1)) [I m])) (1) 3),(1,VB.vec 1 (fun (j:Nat)=>List.take (1) (List.drop (j*(1)) [I m])) (1) 3),(0,VB.cells (tsL t) 25)]) 4 (VV.slice (VA.own (7) 0) 1 1) (pthD [d])/\(l.length<=100000/\t.T.length<=100000/\d.length<=100000)/\∀ (e:Int),e=plE l t [d]->bif !decide (e=(0:Int)) then
 Q (VRes.ret (VV.tup [I ((0:Int)+(1:Int)+(1:Int)),I 0]))
 else isD (VH.mk (10) [(9,VB.cells [VV.sl (2) (1+1+1+1)] 23),(2,VB.vec (1+1+1+1) (catG (1+1+1) (catG (1+1) (catG 1 (fun (j:Nat)=>List.take (1) (List.drop (j*(1)) [I m])) fun (j:Nat)=>List.take (1) (List.drop (j*(1)) [I m])) fun (j:Nat)=>List.take (1) (List.drop (j*(1)) [I m])) fun (j:Nat)=>List.take (1) (List.drop (j*(1)) [I m])) (1) 3),(8,VB.vec 1 (fun (j:Nat)=>List.take (1) (List.drop (j*(1)) [I m])) (1) 3),(7,VB.cells [VV.sl (2) (1+1+1)] 23),(2,VB.vec (1+1+1) (catG (1+1) (catG 1 (fun (j:Nat)=>List.take (1) (List.drop (j*(1)) [I m])) fun (j:Nat)=>List.take (1) (List.drop (j*(1)) [I m])) fun (j:Nat)=>List.take (1) (List.drop (j*(1)) [I m])) (1) 3),(6,VB.vec 1 (fun (j:Nat)=>List.take (1) (List.drop (j*(1)) [I m])) (1) 3),(5,VB.cells [VV.sl (2) (1+1)] 23),(2,VB.vec (1+1) (catG 1 (fun (j:Nat)=>List.take (1) (List.drop (j*(1)) [I m])) fun (j:Nat)=>List.take (1) (List.drop (j*(1)) [I m])) (1) 3),(4,VB.vec 1 (fun (j:Nat)=>List.take (1) (List.drop (j*(1)) [I m])) (1) 3),(3,VB.cells [VV.sl (2) 1] 23),(2,VB.vec 1 (fun (j:Nat)=>List.take (1) (List.drop (j*(1)) [I m])) (1) 3),(1,VB.vec 1 (fun (j:Nat)=>List.take (1) (List.drop (j*(1)) [I m])) (1) 3),(0,VB.cells (tsL t) 25)]) 4 (stD l) (stD l)/\isD (VH.mk (10) [(9,VB.cells [VV.sl (2) (1+1+1+1)] 23),(2,VB.vec (1+1+1+1) (catG (1+1+1) (catG (1+1) (catG 1 (fun (j:Nat)=>List.take (1) (List.drop (j*(1)) [I m])) fun (j:Nat)=>List.take (1) (List.drop (j*(1)) [I m])) fun (j:Nat)=>List.take (1) (List.drop (j*(1)) [I m])) fun (j:Nat)=>List.take (1) (List.drop (j*(1)) [I m])) (1) 3),(8,VB.vec 1 (fun (j:Nat)=>List.take (1) (List.drop (j*(1)) [I m])) (1) 3),(7,VB.cells [VV.sl (2) (1+1+1)] 23),(2,VB.vec (1+1+1) (catG (1+1) (catG 1 (fun (j:Nat)=>List.take (1) (List.drop (j*(1)) [I m])) fun (j:Nat)=>List.take (1) (List.drop (j*(1)) [I m])) fun (j:Nat)=>List.take (1) (List.drop (j*(1)) [I m])) (1) 3),(6,VB.vec 1 (fun (j:Nat)=>List.take (1) (List.drop (j*(1)) [I m])) (1) 3),(5,VB.cells [VV.sl (2) (1+1)] 23),(2,VB.vec (1+1) (catG 1 (fun (j:Nat)=>List.take (1) (List.drop (j*(1)) [I m])) fun (j:Nat)=>List.take (1) (List.drop (j*(1)) [I m])) (1) 3),(4,VB.vec 1 (fun (j:Nat)=>List.take (1) (List.drop (j*(1)) [I m])) (1) 3),(3,VB.cells [VV.sl (2) 1] 23),(2,VB.vec 1 (fun (j:Nat)=>List.take (1) (List.drop (j*(1)) [I m])) (1) 3),(1,VB.vec 1 (fun (j:Nat)=>List.take (1) (List.drop (j*(1)) [I m])) (1) 3),(0,VB.cells (tsL t) 25)]) 4 (VV.agg (tsL t)) (VV.agg (tsL t))/\∃ (d:List Int),isD (VH.mk (10) [(9,VB.cells [VV.sl (2) (1+1+1+1)] 23),(2,VB.vec (1+1+1+1) (catG (1+1+1) (catG (1+1) (catG 1 (fun (j:Nat)=>List.take (1) (List.drop (j*(1)) [I m])) fun (j:Nat)=>List.take (1) (List.drop (j*(1)) [I m])) fun (j:Nat)=>List.take (1) (List.drop (j*(1)) [I m])) fun (j:Nat)=>List.take (1) (List.drop (j*(1)) [I m])) (1) 3),(8,VB.vec 1 (fun (j:Nat)=>List.take (1) (List.drop (j*(1)) [I m])) (1) 3),(7,VB.cells [VV.sl (2) (1+1+1)] 23),(2,VB.vec (1+1+1) (catG (1+1) (catG 1 (fun (j:Nat)=>List.take (1) (List.drop (j*(1)) [I m])) fun (j:Nat)=>List.take (1) (List.drop (j*(1)) [I m])) fun (j:Nat)=>List.take (1) (List.drop (j*(1)) [I m])) (1) 3),(6,VB.vec 1 (fun (j:Nat)=>List.take (1) (List.drop (j*(1)) [I m])) (1) 3),(5,VB.cells [VV.sl (2) (1+1)] 23),(2,VB.vec (1+1) (catG 1 (fun (j:Nat)=>List.take (1) (List.drop (j*(1)) [I m])) fun (j:Nat)=>List.take (1) (List.drop (j*(1)) [I m])) (1) 3),(4,VB.vec 1 (fun (j:Nat)=>List.take (1) (List.drop (j*(1)) [I m])) (1) 3),(3,VB.cells [VV.sl (2) 1] 23),(2,VB.vec 1 (fun (j:Nat)=>List.take (1) (List.drop (j*(1)) [I m])) (1) 3),(1,VB.vec 1 (fun (j:Nat)=>List.take (1) (List.drop (j*(1)) [I m])) (1) 3),(0,VB.cells (tsL t) 25)]) 4 (VV.slice (VA.own (9) 0) 1 1) (pthD [d])/\(l.length<=100000/\t.T.length<=100000/\d.length<=100000)/\∀ (e:Int),e=plE l t [d]->bif !decide (e=(0:Int)) then
 Q (VRes.ret (VV.tup [I ((0:Int)+(1:Int)+(1:Int)+(1:Int)),I 0]))
 else Q (VRes.ret (VV.tup [I 4,I 0]))
 else Q (VRes.ret (VV.tup [I 0,I 2]))):=by kernel_rfl
def apN (p:List (List Int)):FuncId × Spec1:=(39,fun _ args h K=>match args with
 | [x]=>isD h 4 x (pthD p)/\((∀ i,(p.getD i []).length<=100000)/\okPaths p=false)/\K (.ret (.bool false)) h
 | _=>False)
theorem ple3_ev (l:List Stk) (t:Tst) (p:List (List Int)) (Q:VRes->VH->Prop):callN Try.prog (tabS [asK l t true,apN p]) noL 10 20 0 (.fn 17) [stD l,.agg (tsL t),pthD p] ⟨0,[]⟩ (fun r h=>Q r h) =
 (isD (VH.mk (2) [(1,VB.cells [pthD p] 26),(0,VB.cells (tsL t) 25)]) 2 (stD l) (stD l)/\isD (VH.mk (2) [(1,VB.cells [pthD p] 26),(0,VB.cells (tsL t) 25)]) 2 (VV.agg (tsL t)) (VV.agg (tsL t))/\okAll l t=true/\isD (VH.mk (2) [(1,VB.cells [pthD p] 26),(0,VB.cells (tsL t) 25)]) 4 (pthD p) (pthD p)/\((∀ (i:Nat),(p.getD i []).length.le 100000)/\okPaths p=false)/\Q (VRes.ret (VV.tup [VV.nils,I 2])) (VH.mk (2) [(1,VB.cells [pthD p] 26),(0,VB.cells (tsL t) 25)])):=by kernel_rfl
section
variable {l:List Stk} {a c:Nat->Int}
theorem lLe_ok (hb:bdL a c) (hn:l.length<=6):LSound Try.prog true (.block 0 (.loop (loopB 0 (bodyOf Try.prog 78)))) (ntOf Try.prog 78) (lLe l a c):=by
 refine loop_row hmix good0 (un:=10) (ds:=dsLe) (ns:=[0]) (nx:=1) (fun i:Nat=>VLe l a c i) (fun i=>[.vec i (gLe a c) 1 3]) (fun i=>i<=l.length) (fun i=>l.length - i) (fun _ e vs bs=>e=.exit 0/\bs=[.vec l.length (gLe a c) 1 3]/\vs=VLe l a c l.length) noL_ok ?_ ?_
 ·rintro i h0
  refine cast (le_ev l a c i _).symm ?_
  by_cases hlt:i<l.length
  ·have h1:=hb i (by omega)
   rw [show (i:Int).toNat=i by omega]
   refine cond_dk (by omega) (cond_dk ⟨by omega,by omega⟩ (cond_dk ⟨by omega,by omega⟩ (cond_r (by omega) (cond_k (Nat.beq_refl _) (cond_k (room8 (by omega)) (cond_r (by omega) ⟨i+1,by omega,by dsimp only; omega,rfl,⟨⟨rfl,rfl,rfl,fun q hq=>?_⟩,trivial⟩,fun _ _ _ h=>h⟩))))))
   by_cases hq2:q<i
   ·rw [catG_lt hq2]
   ·obtain rfl:q=i:=by omega
    rw [catG_ge (Nat.le_refl _),Nat.sub_self]
    rfl
  ·obtain rfl:i=l.length:=by omega
   exact cond_d (fun h=>by omega) (fun _=>⟨rfl,rfl,rfl⟩)
 ·rintro lock tt h K ⟨hf,k1⟩
  refine ⟨0,hf,Nat.zero_le _,?_⟩
  rintro e vs bs ⟨rfl,rfl,rfl⟩
  exact k1
theorem rless_v (hb:bdL a c) (hn:l.length<=6):∃ h',CallsV Try.prog 78 [chaD l a,chaD l c] ⟨0,[]⟩ (.ret (chaD l (lsF a c 6))) h':=by
 have hall:LoopsOk Try.prog 78 [(0,lLe l a c)]:=fun x hx=>by
  simp only [List.mem_singleton] at hx
  subst hx
  exact ⟨by kernel_rfl,lLe_ok hb hn⟩
 obtain ⟨r,h',⟨rfl,hm⟩,hc⟩:=of_callN (callL_good hmix noSp hall (un:=10) 20) (f:=78) (args:=[chaD l a,chaD l c]) (h:=⟨0,[]⟩) (K:=fun r h'=>r=.ret (.sl 0 l.length)/\h'.at 0=.vec l.length (gLe a c) 1 3) (by
  refine cast (lef_ev l a c _).symm ⟨?_,rfl,rfl⟩
  exact ⟨⟨rfl,rfl,⟨rfl,rfl,rfl,fun i hi=>by omega⟩,trivial⟩,rfl,rfl,rfl,rfl,trivial⟩)
 have h1:=calls_tell (v2:=.tl l.length 1 (gLe a c)) hc hm (fun R R' x hle hv hx=>hv x hx)
 refine ⟨_,calls_res h1 (fun R x hx=>wk_one (tl_weak rfl (fun i hi=>?_)) x hx)⟩
 have e:lsF a c 6 i=a i - c i:=by unfold lsF; rw [if_pos (by omega)]
 unfold gLe chG
 rw [e]
 exact wkL_refl _
theorem lesR_ok (l:List Stk):SpOk Try.prog (lesR l).1 (lesR l).2:=by
 intro lock args h K hK
 simp only [lesR] at hK
 split at hK
 ·obtain ⟨a,c,rfl,rfl,⟨h1,h2⟩,hK⟩:=hK
  obtain ⟨h',hc⟩:=rless_v h1 h2
  exact ⟨_,h,hK,lockP_refl _ _,calls_lift0 hc rfl rfl⟩
 ·exact hK.elim
end
end Go.Sx.Bln
namespace Go.Sx
open Go
section
variable {P:Program}
theorem pre_told {c:Code} {n:Nat} {T0 T:LT} (h0:LSound P true c n T0) (hT:∀ lock t h K,T lock t h K->∃ h0 t0,FitP lock h t h0 t0/\∃ t2 h2,ToldT t0 h0 t2 h2/\T0 0 t2 h2 K):LSound P true c n T:=by
 intro lock t h K hK
 obtain ⟨ha,ta,hf,t2,h2,htd,hK⟩:=hT lock t h K hK
 obtain ⟨e,t',h',hk,_,hs⟩:=h0 _ _ _ _ hK
 obtain rfl:=hf.1.1
 exact ⟨e,t',h',hk,lock0 _ _,sem_fit hf (sem_told htd hs)⟩
end
end Go.Sx
namespace Go.Sx.Bln
open Go Go.Sx Go.Proofs
set_option maxRecDepth 1000000
theorem lsp_many {n:Nat} {o:Code}:∀ {L:List (Nat × LT)},(∀ x ∈ L,∃ i,blocksOf x.1 o=[.loop i]/\LSound Try.prog true (.block x.1 (.loop i)) n x.2)->∀ id T,tabB L id=some T->∀ b' ∈ blocksOf id o,LSound Try.prog true (.block id b') n T
 | [],_,id,T,hT,_,_=>by cases hT
 | (k,U)::r,h,id,T,hT,b',hb=>by
  simp only [tabB] at hT
  cases hid:Nat.beq id k with
  | true=>
   rw [hid] at hT
   have:=Nat.eq_of_beq_eq_true hid
   subst this
   cases hT
   obtain ⟨i,h1,h2⟩:=h _ (List.mem_cons_self ..)
   dsimp only at h1 h2
   rw [h1,List.mem_singleton] at hb
   subst hb
   exact h2
  | false=>
   rw [hid] at hT
   exact lsp_many (fun x hx=>h x (List.mem_cons_of_mem _ hx)) id T hT b' hb
theorem getD_snoc_lt {α:Type} {L:List α} {a d:α} {j:Nat} (h:j<L.length):(L ++ [a]).getD j d=L.getD j d:=by
 rw [List.getD_eq_getElem?_getD,List.getElem?_append_left h,<- List.getD_eq_getElem?_getD]
theorem getD_snoc_eq {α:Type} {L:List α} {a d:α}:(L ++ [a]).getD L.length d=a:=by
 rw [List.getD_eq_getElem?_getD,List.getElem?_append_right (Nat.le_refl _),Nat.sub_self]
 rfl
theorem mem_of_getD {L:List Nat} {q:Nat} (h:q<L.length):L.getD q 0 ∈ L:=by
 rw [List.getD_eq_getElem?_getD,List.getElem?_eq_getElem h]
 exact List.getElem_mem _
theorem getD_of_mem {L:List Nat} {a:Nat} (h:a ∈ L):∃ q,q<L.length/\L.getD q 0=a:=by
 obtain ⟨q,hq,rfl⟩:=List.mem_iff_getElem.1 h
 exact ⟨q,hq,by rw [List.getD_eq_getElem?_getD,List.getElem?_eq_getElem hq]; rfl⟩
section
variable {l:List Stk} {t:Tst} {P:List (List Int)} {n:Nat} {s:Nat->Nat} {y:Nat} {a:Nat->Int} {d:Int}
theorem wlF_yes {k:Nat} (h:ndP P (s k) y=d):wlF P s y d (k+1)=wlF P s y d k ++ [k]:=by
 show (bif decide (ndP P (s k) y=d) then _ else _)=_
 rw [decide_eq_true h]
 rfl
theorem wlF_no {k:Nat} (h:¬ ndP P (s k) y=d):wlF P s y d (k+1)=wlF P s y d k:=by
 show (bif decide (ndP P (s k) y=d) then _ else _)=_
 rw [decide_eq_false h]
 rfl
theorem wlF_le:∀ k,(wlF P s y d k).length<=k
 | 0=>Nat.le_refl _
 | k+1=>by
  have:=wlF_le k
  by_cases h:ndP P (s k) y=d
  ·rw [wlF_yes h,List.length_append]
   exact Nat.succ_le_succ this
  ·rw [wlF_no h]; omega
theorem wlF_mem:∀ {k j:Nat},j ∈ wlF P s y d k ↔ j<k/\ndP P (s j) y=d
 | 0,j=>⟨fun h=>(by cases h),fun h=>by omega⟩
 | k+1,j=>by
  by_cases h:ndP P (s k) y=d
  ·rw [wlF_yes h,List.mem_append,wlF_mem,List.mem_singleton]
   constructor
   ·rintro (⟨h1,h2⟩ | rfl)
    ·exact ⟨by omega,h2⟩
    ·exact ⟨by omega,h⟩
   ·rintro ⟨h1,h2⟩
    by_cases e:j=k
    ·exact .inr e
    ·exact .inl ⟨by omega,h2⟩
  ·rw [wlF_no h,wlF_mem]
   constructor
   ·rintro ⟨h1,h2⟩; exact ⟨by omega,h2⟩
   ·rintro ⟨h1,h2⟩
    refine ⟨?_,h2⟩
    by_cases e:j=k
    ·subst e; exact (h h2).elim
    ·omega
theorem wlF_first:∀ {k j:Nat},j ∈ wlF P s y d k->(wlF P s y d k).getD 0 0<=j
 | 0,j,h=>by cases h
 | k+1,j,h=>by
  by_cases hd:ndP P (s k) y=d
  ·rw [wlF_yes hd] at h ⊢
   have hlt:∀ i ∈ wlF P s y d k,i<k:=fun i hi=>(wlF_mem.1 hi).1
   cases hw:wlF P s y d k with
   | nil=>
    rw [hw] at h
    have h:j ∈ [k]:=h
    rw [List.mem_singleton] at h
    subst h
    exact Nat.le_refl _
   | cons b r=>
    have h0:(wlF P s y d k).getD 0 0=b:=by rw [hw]; rfl
    rw [<- hw,getD_snoc_lt (by rw [hw]; exact Nat.succ_pos _),h0]
    rcases List.mem_append.1 h with h | h
    ·rw [<- h0]; exact wlF_first h
    ·rw [List.mem_singleton] at h
     subst h
     have:=hlt b (by rw [hw]; exact List.mem_cons_self)
     omega
  ·rw [wlF_no hd] at h ⊢
   exact wlF_first h
def lU2s (l:List Stk) (t:Tst) (P:List (List Int)) (n:Nat) (s:Nat->Nat) (y:Nat) (a:Nat->Int) (i:Nat) (d:Int) (E:Nat->List VV):LT:=fun lock tt h K=>
 FitP lock h tt ⟨4,uN2.zip (uB2 t n E 0 (uF s []) (uG []))⟩ (uD2.zip (uV2 l P n s y a i d 0 0))/\uOk P n s y /\
  ∀ L:List Nat,wlF P s y d n=L->K .normal (uD2.zip (uV2 l P n s y a i d L.length n)) ⟨4,uN2.zip (uB2 t n E L.length (uF s L) (uG L))⟩
theorem lU2s_ok {i:Nat} {E:Nat->List VV}:LSound Try.prog true (.block 2 (.loop (loopB 2 (bodyOf Try.prog 50)))) (ntOf Try.prog 50) (lU2s l t P n s y a i d E):=by
 by_cases hh:uOk P n s y
 ·obtain ⟨hn,hs⟩:=hh
  refine loop_row hmix good0 (un:=10) (ds:=uD2) (ns:=uN2) (nx:=4) (fun k:Nat=>uV2 l P n s y a i d (wlF P s y d k).length k) (fun k=>uB2 t n E (wlF P s y d k).length (uF s (wlF P s y d k)) (uG (wlF P s y d k))) (fun k=>k<=n) (fun k=>n - k) (fun _ e vs bs=>e=.exit 2/\bs=uB2 t n E (wlF P s y d n).length (uF s (wlF P s y d n)) (uG (wlF P s y d n))/\vs=uV2 l P n s y a i d (wlF P s y d n).length n) noL_ok ?_ ?_
  ·rintro k hk
   refine cast (u2_ev l t P n s y i k (wlF P s y d k).length d a E _ _ _).symm ?_
   have hle:=wlF_le (P:=P) (s:=s) (y:=y) (d:=d) k
   generalize hRQ:RoundQ (σ:=Nat) _ _ _ _ _ _=RQ
   refine cond_d (fun hlt=>?_) (fun hlt=>?_)
   ·have hlt:k<n:=by omega
    obtain ⟨h1,h2⟩:=hs k hlt
    rw [show (k:Int).toNat=k by omega]
    rw [show ((s k:Nat):Int).toNat=s k by omega,show (y:Int).toNat=y by omega]
    refine cond_dk ⟨by omega,by omega⟩ (cond_dk ⟨by omega,by omega⟩ (cond_dk ⟨by omega,by omega⟩ (cond_d (fun hd=>?_) (fun hd=>?_))))
    ·have e:wlF P s y d (k+1)=wlF P s y d k ++ [k]:=wlF_yes hd
     refine cond_dk ⟨by omega,by omega⟩ (cond_k (Nat.beq_refl _) (cond_k (room8 (by omega)) (cond_k (Nat.beq_refl _) (cond_k (room8 (by omega)) (cond_r (by omega) ?_)))))
     rw [<- hRQ]
     refine ⟨k+1,hlt,by dsimp only; omega,?_,?_,fun _ _ _ h=>h⟩
     ·show _=uV2 l P n s y a i d (wlF P s y d (k+1)).length (k+1)
      rw [e,List.length_append]; rfl
     ·dsimp only
      rw [e,List.length_append]
      refine ⟨VB.fit_refl _,VB.fit_refl _,⟨rfl,rfl,rfl,fun q hq=>?_⟩,⟨rfl,rfl,rfl,fun q hq=>?_⟩,trivial⟩
      ·by_cases hq2:q<(wlF P s y d k).length
       ·rw [catG_lt hq2]; unfold uF; rw [getD_snoc_lt hq2]
       ·obtain rfl:q=(wlF P s y d k).length:=by have hq:q<(wlF P s y d k).length+1:=hq; omega
        rw [catG_ge (Nat.le_refl _),Nat.sub_self]; unfold uF; rw [getD_snoc_eq]; rfl
      ·by_cases hq2:q<(wlF P s y d k).length
       ·rw [catG_lt hq2]; unfold uG; rw [getD_snoc_lt hq2]
       ·obtain rfl:q=(wlF P s y d k).length:=by have hq:q<(wlF P s y d k).length+1:=hq; omega
        rw [catG_ge (Nat.le_refl _),Nat.sub_self]; unfold uG; rw [getD_snoc_eq]; rfl
    ·have e:wlF P s y d (k+1)=wlF P s y d k:=wlF_no hd
     refine cond_r (by omega) ?_
     rw [<- hRQ]
     refine ⟨k+1,hlt,by dsimp only; omega,?_,?_,fun _ _ _ h=>h⟩
     ·show _=uV2 l P n s y a i d (wlF P s y d (k+1)).length (k+1)
      rw [e]; rfl
     ·dsimp only
      rw [e]
      exact fitBs_refl _
   ·have hk2:k<=n:=hk
    obtain rfl:k=n:=by omega
    rw [<- hRQ]
    exact ⟨rfl,rfl,rfl⟩
  ·rintro lock tt h K ⟨hf,_,k1⟩
   refine ⟨0,hf,Nat.zero_le _,?_⟩
   rintro e vs bs ⟨rfl,rfl,rfl⟩
   exact k1 _ rfl
 ·rintro lock tt h K ⟨hf,hc,_⟩
  exact (hh hc).elim
theorem lU2_ok:LSound Try.prog true (.block 2 (.loop (loopB 2 (bodyOf Try.prog 50)))) (ntOf Try.prog 50) (lU2 l t P n s y a):=by
 rintro lock tt h K ⟨i,d,E,hf,hc,k1⟩
 have h1:LSound Try.prog true (.block 2 (.loop (loopB 2 (bodyOf Try.prog 50)))) (ntOf Try.prog 50) (fun lock tt h K=>FitP lock h tt ⟨3,[(2,.vec 0 (uF s []) 1 3),(0,.cells (tsL t) 25),(1,.vec n E 1 26)]⟩ ((18,.nils)::(17,.sl 2 0)::(19,I 0)::(16,I d)::uD0.zip (uV0 l P n s y a i))/\uOk P n s y/\∀ L:List Nat,wlF P s y d n=L->K .normal (uD2.zip (uV2 l P n s y a i d L.length n)) ⟨4,uN2.zip (uB2 t n E L.length (uF s L) (uG L))⟩):=
  ghost_row (d:=18) (nx:=3) (bs:=[(2,.vec 0 (uF s []) 1 3),(0,.cells (tsL t) 25),(1,.vec n E 1 26)]) (t0:=(17,.sl 2 0)::(19,I 0)::(16,I d)::uD0.zip (uV0 l P n s y a i)) (uG []) 1 3 (lU2s_ok (l:=l) (t:=t) (P:=P) (n:=n) (s:=s) (y:=y) (a:=a) (i:=i) (d:=d) (E:=E)) (by
   rintro lock t h K ⟨hf,hc,k1⟩
   exact ⟨hf,⟨⟨rfl,rfl,VB.fit_refl _,VB.fit_refl _,VB.fit_refl _,VB.fit_refl _,trivial⟩,rfl,rfl,rfl,rfl,rfl,rfl,rfl,rfl,rfl,rfl,rfl,rfl,rfl,rfl,trivial⟩,hc,k1⟩)
 have h2:LSound Try.prog true (.block 2 (.loop (loopB 2 (bodyOf Try.prog 50)))) (ntOf Try.prog 50) (fun lock tt h K=>FitP lock h tt ⟨2,[0,1].zip (uB0 t n E)⟩ (uD2.zip (I 0::.nils::.nils::I d::uV0 l P n s y a i))/\uOk P n s y/\∀ L:List Nat,wlF P s y d n=L->K .normal (uD2.zip (uV2 l P n s y a i d L.length n)) ⟨4,uN2.zip (uB2 t n E L.length (uF s L) (uG L))⟩):=
  ghost_row (d:=17) (nx:=2) (bs:=[0,1].zip (uB0 t n E)) (t0:=(18,.nils)::(19,I 0)::(16,I d)::uD0.zip (uV0 l P n s y a i)) (uF s []) 1 3 h1 (by
   rintro lock t h K ⟨hf,hc,k1⟩
   refine ⟨⟨hf.1,?_⟩,⟨⟨rfl,rfl,VB.fit_refl _,VB.fit_refl _,VB.fit_refl _,trivial⟩,rfl,rfl,rfl,rfl,rfl,rfl,rfl,rfl,rfl,rfl,rfl,rfl,rfl,rfl,trivial⟩,hc,k1⟩
   obtain ⟨e1,e2,e3,e4,e5⟩:=hf.2
   exact ⟨e3,e2,e1,e4,e5⟩)
 exact h2 lock tt h K ⟨hf,hc,k1⟩
theorem lU6_ok {k0:Nat}:LSound Try.prog true (.block 6 (.loop (loopB 6 (bodyOf Try.prog 50)))) (ntOf Try.prog 50) (lU6 l t P k0 n s y a):=by
 rintro lock tt h K ⟨i,d,L,j,R,E,hf,hc,k1⟩
 have key:LSound Try.prog true (.block 6 (.loop (loopB 6 (bodyOf Try.prog 50)))) (ntOf Try.prog 50) (fun lock tt h K=>FitP lock h tt ⟨4,[0,1].zip (uB0 t n E)⟩ (uD6.zip (uV6 l P n s y a i d L j k0 R 0))/\K .normal (uD6.zip (uV6 l P n s y a i d L j k0 R L.length)) ⟨4,[0,1].zip (uB0 t n (stF l k0 L (chAt a l.length j) R E L.length))⟩):=by
  obtain ⟨hj,hL,hL2,hl6,hk4⟩:=hc
  refine loop_row hmix good0 (un:=10) (ds:=uD6) (ns:=[0,1]) (nx:=4) (fun k:Nat=>uV6 l P n s y a i d L j k0 R k) (fun k=>uB0 t n (stF l k0 L (chAt a l.length j) R E k)) (fun k=>k<=L.length) (fun k=>L.length - k) (fun _ e vs bs=>e=.exit 6/\bs=uB0 t n (stF l k0 L (chAt a l.length j) R E L.length)/\vs=uV6 l P n s y a i d L j k0 R L.length) noL_ok ?_ ?_
  ·rintro k hk
   refine cast (u6_ev l t P k0 k n s y i a d L j R _ _).symm ?_
   generalize hRQ:RoundQ (σ:=Nat) _ _ _ _ _ _=RQ
   refine cond_d (fun hlt=>?_) (fun hlt=>?_)
   ·have hlt:k<L.length:=by omega
    have h1:=hL k hlt
    rw [show (k:Int).toNat=k by omega,show (j:Int).toNat=j by omega]
    rw [show ((L.getD k 0:Nat):Int).toNat=L.getD k 0 by omega]
    refine cond_dk ⟨by omega,by omega⟩ (cond_dk ⟨by omega,by omega⟩ (cond_k (room8 (by omega)) (cond_k (by rw [Nat.beq_refl]; rfl) (cond_dk ⟨by omega,by omega⟩ (cond_k (room24 (by omega)) (cond_k (by rw [Nat.beq_refl]; rfl) (cond_dk ⟨by omega,by omega⟩ (cond_k (by rw [Nat.beq_refl]; rfl) (cond_k (by rw [Nat.beq_refl]; rfl) (cond_r (by omega) ?_))))))))))
    rw [<- hRQ]
    exact ⟨k+1,hlt,by dsimp only; omega,rfl,fitBs_refl _,fun _ _ _ h=>h⟩
   ·have hk:k<=L.length:=hk
    obtain rfl:k=L.length:=by omega
    rw [<- hRQ]
    exact ⟨rfl,rfl,rfl⟩
  ·rintro lock tt h K ⟨hf,k1⟩
   refine ⟨0,hf,Nat.zero_le _,?_⟩
   rintro e vs bs ⟨rfl,rfl,rfl⟩
   exact k1
 exact key lock tt h K ⟨hf,k1⟩
theorem stF_get {k0:Nat} {L:List Nat} {c:Nat->Int} {x:Rsl} {E:Nat->List VV} {Y:Nat} {q:Nat}:∀ m,m<=L.length->(q ∈ L.take m->stF l k0 L c (fun q' y'=>x (s (L.getD q' 0)) (Y - k0+y')) E m q=uEl l k0 c (fun y'=>x (s q) (Y - k0+y')))/\(q ∉ L.take m->stF l k0 L c (fun q' y'=>x (s (L.getD q' 0)) (Y - k0+y')) E m q=E q)
 | 0,_=>⟨fun h=>(by rw [List.take_zero] at h; cases h),fun _=>rfl⟩
 | m+1,hm=>by
  obtain ⟨h1,h2⟩:=stF_get (k0:=k0) (L:=L) (c:=c) (x:=x) (E:=E) (Y:=Y) (q:=q) m (by omega)
  have e:L.take (m+1)=L.take m ++ [L.getD m 0]:=by
   rw [List.take_add_one,List.getD_eq_getElem?_getD,List.getElem?_eq_getElem (show m<L.length by omega)]
   rfl
  rw [e,List.mem_append,List.mem_singleton]
  show (_->atG _ _ _ q=_)/\(_->atG _ _ _ q=_)
  unfold atG
  by_cases hq:q=L.getD m 0
  ·rw [<- hq,Nat.beq_refl]
   refine ⟨fun _=>?_,fun h=>(h (.inr rfl)).elim⟩
   dsimp only [cond_true]
   rw [<- hq]
  ·rw [beq_f hq]
   refine ⟨fun h=>h1 (h.resolve_right hq),fun h=>h2 (fun h3=>h (.inl h3))⟩
end
section
variable {l:List Stk} {t:Tst} {y m:Int} {n n':Nat->Int}
theorem age_ext:∀ {K:Nat},(∀ i,i<K->n i=n' i)->ageF l n y K=ageF l n' y K
 | 0,_=>rfl
 | K+1,h=>by
  unfold ageF
  rw [age_ext (fun i hi=>h i (by omega)),h K (by omega)]
theorem KF_ext {b:Bool} (h:∀ i,i<l.length->n i=n' i):∀ K,KF l t n b K=KF l t n' b K
 | 0=>rfl
 | K+1=>by
  unfold KF
  rw [KF_ext h K]
  unfold okF volF loF hiF
  rw [sumF_congr (f:=tmV l n) (g:=tmV l n') _ (fun i hi=>by unfold tmV; rw [h i hi]),sumF_congr (f:=tmL l n K) (g:=tmL l n' K) _ (fun i hi=>by unfold tmL; rw [h i hi]),sumF_congr (f:=tmH l n K) (g:=tmH l n' K) _ (fun i hi=>by unfold tmH; rw [h i hi])]
theorem meets_ext (h:∀ i,i<l.length->n i=n' i):meetsF l t n y m=meetsF l t n' y m:=by
 have h1:volF l n=volF l n':=sumF_congr _ (fun i hi=>by unfold tmV; rw [h i hi])
 have hk:(vtF l t n y).k=(vtF l t n' y).k:=by
  show KF l t n _ t.T.length=KF l t n' _ t.T.length
  rw [KF_ext h,h1,age_ext h]
 unfold meetsF
 rw [h1,hk]
theorem chD_nB {c:Nat->Int} (h:nB c):nB (chD (dC l c)):=fun i hi=>by
 show 0<=(dC l c).getD i 0/\(dC l c).getD i 0<=6
 by_cases hl:i<l.length
 ·rw [dC_get hl]; exact h i hi
 ·rw [List.getD_eq_getElem?_getD,List.getElem?_eq_none (by rw [dC_len]; omega)]
  exact ⟨Int.le_refl _,by decide⟩
theorem mtR_ok (l:List Stk) (t:Tst):SpOk Try.prog (mtR l t).1 (mtR l t).2:=by
 intro lock args h K hK
 simp only [mtR] at hK
 split at hK
 ·rename_i x z y m w
  obtain ⟨h1,h2,c,h3,⟨hcon,hy⟩,hK⟩:=hK
  have e:meetsF l t (chD (dC l c)) y m=meetsF l t c y m:=meets_ext (fun i hi=>dC_get hi)
  exact rmeT_ok lock _ h K ⟨l,t,dC l c,h1,h2,h3,⟨⟨chD_nB hcon.1,hcon.2⟩,dC_len,hy⟩,by rw [e]; exact hK⟩
 ·exact hK.elim
theorem dC_at {a:Nat->Int} (ha:leftB l a) (i:Nat):a i=(dC l a).getD i 0:=by
 by_cases hl:i<l.length
 ·rw [dC_get hl]
 ·rw [List.getD_eq_getElem?_getD,List.getElem?_eq_none (by rw [dC_len]; omega),ha.2 i (by omega)]
  rfl
theorem dC_dB {a:Nat->Int} (ha:leftB l a) (hl:l.length<=6):dB (dC l a):=⟨by rw [dC_len]; exact hl,fun i hi=>by
 rw [dC_len] at hi
 rw [dC_get hi]
 exact ha.1 i hi⟩
theorem allC_le {a:Nat->Int} (ha:leftB l a) (hl:l.length<=6):(allC a l.length).length<=150000:=by
 rw [allC_len (dC_at ha)]
 exact nC_le (dC_dB ha hl) (by rw [dC_len]; exact Nat.le_refl _)
theorem chsR_ok (l:List Stk) (a:Nat->Int):SpOk Try.prog (chsR l a).1 (chsR l a).2:=by
 intro lock args h K hK
 simp only [chsR] at hK
 split at hK
 ·obtain ⟨rfl,⟨ha,hl⟩,hK⟩:=hK
  obtain ⟨h',hc⟩:=choices_d (dC_at ha) (dC_dB ha hl)
  rw [dC_len] at hc
  have hc2:CallsV Try.prog 57 [inD (dC l a)] h (.ret (allD a l.length)) h:=calls_lift0 hc rfl rfl
  refine ⟨_,h,hK,lockP_refl _ _,calls_args hc2 (fun R xs hx=>?_)⟩
  obtain ⟨y0,_,k0,k3,rfl⟩:=hx
  exact ⟨_,_,wk_one (tl_weak dC_len fun i hi=>by unfold dG; rw [dC_get hi]; exact wkL_refl _) y0 k0,k3,rfl⟩
 ·exact hK.elim
end
section
variable {l:List Stk} {t:Tst} {P:List (List Int)} {Y k0 n:Nat} {s:Nat->Nat} {y:Nat} {a:Nat->Int}
def st4 (l:List Stk) (Y k0:Nat) (s:Nat->Nat) (L:List Nat) (E:Nat->List VV):Option ((Nat->Int) × Rsl)->Nat->List VV
 | none=>E
 | some (c,x)=>stF l k0 L c (fun q y'=>x (s (L.getD q 0)) (Y - k0+y')) E L.length
def Out4 (l:List Stk) (t:Tst) (P:List (List Int)) (Y k0 n:Nat) (s:Nat->Nat) (y:Nat) (a:Nat->Int) (i:Nat) (d:Int) (L:List Nat) (O:Nat) (E:Nat->List VV) (_:Nat × Option ((Nat->Int) × Rsl)) (e:VEx) (vs:List VV) (bs:List VB):Prop:=
 e=.exit 4/\∃ j,(folF l t P Y k0 a O d=none->j=(allC a l.length).length)/\vs=uV4 l P n s y a i d L j (folF l t P Y k0 a O d).isSome/\bs=uB0 t n (st4 l Y k0 s L E (folF l t P Y k0 a O d))
theorem drop_at {a:Nat->Int} {k j:Nat} (hj:j<(allC a k).length):(allC a k).drop j=chAt a k j::(allC a k).drop (j+1):=by
 rw [List.drop_eq_getElem_cons hj]
 congr 1
 unfold chAt
 rw [List.getD_eq_getElem?_getD,List.getElem?_eq_getElem hj]
 rfl
theorem tryF_cons {meet:(Nat->Int)->Bool} {sub:(Nat->Int)->Option Rsl} {c:Nat->Int} {r:List (Nat->Int)}:tryF meet sub (c::r)=if meet c then (match sub c with
  | some x=>some (c,x)
  | none=>tryF meet sub r) else tryF meet sub r:=rfl
theorem lU4s_ok (hl:lB l) (hp:pB l t.T.length) (ht:tB t) (hk:k0+1<=Y) (hY:Y<=4) (hy:y+(k0+1)=Y) (ha:leftB l a) (hpl:SpOk Try.prog (plnR l t P Y k0).1 (plnR l t P Y k0).2) {i:Nat} {d:Int} {L:List Nat} {O:Nat} {E:Nat->List VV}
  (hL:∀ q,q<L.length->L.getD q 0<n) (hL2:L.length<=100) (hO:bitsOf L.length (fun q=>s (L.getD q 0)) O) (hO2:O<2 ^ P.length) :
  LSound Try.prog true (.block 4 (.loop (loopB 4 (bodyOf Try.prog 50)))) (ntOf Try.prog 50) (fun lock tt h K=>FitP lock h tt ⟨4,[0,1].zip (uB0 t n E)⟩ (uD4.zip (uV4 l P n s y a i d L 0 false)) /\
  (folF l t P Y k0 a O d=none->K .normal (uD4.zip (uV4 l P n s y a i d L (allC a l.length).length false)) ⟨4,[0,1].zip (uB0 t n E)⟩) /\
  ∀ (j:Nat) (c:Nat->Int) (x:Rsl),folF l t P Y k0 a O d=some (c,x)->K .normal (uD4.zip (uV4 l P n s y a i d L j true)) ⟨4,[0,1].zip (uB0 t n (stF l k0 L c (fun q y'=>x (s (L.getD q 0)) (Y - k0+y')) E L.length))⟩):=by
 have htab:∀ f T,tabS [mtR l t,lesR l,plnR l t P Y k0] f=some T->SpOk Try.prog f T:=tab_ok _ (fun x hx=>by
  simp only [List.mem_cons,List.not_mem_nil,or_false] at hx
  rcases hx with rfl | rfl | rfl
  ·exact mtR_ok l t
  ·exact lesR_ok l
  ·exact hpl)
 have hN:=allC_le ha hl.1
 have hy1:(y:Int)=(Y:Int) - (k0+1:Nat):=by omega
 refine loop_row hmix (noL_good htab) (un:=10) (lsp:=tabB [(6,lU6 l t P k0 n s y a)]) (ds:=uD4) (ns:=[0,1]) (nx:=4) (fun p:Nat × Option ((Nat->Int) × Rsl)=>uV4 l P n s y a i d L p.1 p.2.isSome) (fun p=>uB0 t n (st4 l Y k0 s L E p.2)) (fun p=>p.1<=(allC a l.length).length/\((p.2=none/\tryF (fun c=>meetsF l t c ((Y:Int) - (k0+1:Nat)) d) (fun c=>planF l t P Y k0 O (lsF a c 6)) ((allC a l.length).drop p.1)=folF l t P Y k0 a O d) ∨ ∃ cx,p.2=some cx/\folF l t P Y k0 a O d=some cx)) (fun p=>(allC a l.length).length - p.1) (Out4 l t P Y k0 n s y a i d L O E) (lsp_one (by kernel_rfl) lU6_ok) ?_ ?_
 ·rintro ⟨j,r⟩ ⟨h0,h1⟩
  dsimp only at h0 h1 ⊢
  rcases h1 with ⟨rfl,hf⟩ | ⟨cx,rfl,hf⟩
  ·refine cast (u4_ev l t P Y k0 n s y i a d L j false E _).symm ?_
   generalize hRQ:RoundQ (σ:=Nat × Option ((Nat->Int) × Rsl)) _ _ _ _ _ _=RQ
   refine cond_d (fun hlt=>?_) (fun hlt=>?_)
   ·have hlt:j<(allC a l.length).length:=by omega
    have hmem:=chAt_mem hlt
    obtain ⟨hlf,hbd,hcB⟩:=left_less ha hmem hl.1
    have hf2:=hf
    rw [drop_at hlt,tryF_cons] at hf2
    rw [<- hy1] at hf2
    rw [show (j:Int).toNat=j by omega]
    refine cond_k rfl (cond_dk ⟨by omega,by omega⟩ ⟨isD_l,isD_t,chAt a l.length j,isD_dC,⟨⟨hcB,hl,hp,ht⟩,by omega,by omega⟩,?_⟩)
    refine cond_i (fun hm=>?_) (fun hm=>?_)
    ·rw [Bool.not_eq_true'] at hm
     rw [if_neg (by rw [hm]; simp),hy1] at hf2
     refine cond_r (by omega) ?_
     rw [<- hRQ]
     exact ⟨(j+1,none),⟨hlt,.inl ⟨rfl,hf2⟩⟩,by dsimp only; omega,rfl,fitBs_refl _,fun _ _ _ h=>h⟩
    ·rw [Bool.not_eq_false'] at hm
     rw [if_pos hm,hy1] at hf2
     refine cond_r (by omega) (cond_dk ⟨by omega,by omega⟩ ⟨a,chAt a l.length j,rfl,rfl,⟨hbd,hl.1⟩,rfl,rfl,rfl,L.length,(fun q=>s (L.getD q 0)),O,lsF a (chAt a l.length j) 6,rfl,rfl,⟨by omega,by omega,hL2,hO,hO2,hlf⟩,fun hn=>?_,fun x hx=>?_⟩)
     ·rw [hn] at hf2
      refine cond_r (by omega) ?_
      rw [<- hRQ]
      exact ⟨(j+1,none),⟨hlt,.inl ⟨rfl,hf2⟩⟩,by dsimp only; omega,rfl,fitBs_refl _,fun _ _ _ h=>h⟩
     ·rw [hx] at hf2
      refine ⟨i,d,L,j,fun q y'=>x (s (L.getD q 0)) (Y - k0+y'),E,⟨⟨rfl,rfl,VB.fit_refl _,VB.fit_refl _,trivial⟩,rfl,rfl,rfl,rfl,rfl,rfl,rfl,rfl,rfl,rfl,rfl,rfl,rfl,rfl,rfl,rfl,rfl,rfl,trivial⟩,⟨hlt,hL,hL2,hl.1,by omega⟩,cond_r (by omega) ?_⟩
      rw [<- hRQ]
      exact ⟨(j+1,some (chAt a l.length j,x)),⟨hlt,.inr ⟨_,rfl,hf2.symm⟩⟩,by dsimp only; omega,rfl,fitBs_refl _,fun _ _ _ h=>h⟩
   ·obtain rfl:j=(allC a l.length).length:=by omega
    rw [List.drop_length] at hf
    have hf:none=folF l t P Y k0 a O d:=hf
    rw [<- hRQ]
    refine ⟨rfl,(allC a l.length).length,fun _=>rfl,?_,?_⟩
    ·rw [<- hf]; rfl
    ·rw [<- hf]; rfl
  ·refine cast (u4_ev l t P Y k0 n s y i a d L j true _ _).symm ?_
   have out:Out4 l t P Y k0 n s y a i d L O E (j,some cx) (.exit 4) (uV4 l P n s y a i d L j true) (uB0 t n (st4 l Y k0 s L E (some cx))):=⟨rfl,j,fun h=>(by rw [hf] at h; cases h),by rw [hf]; rfl,by rw [hf]⟩
   exact cond_d (fun hlt=>out) (fun hlt=>out)
 ·rintro lock tt h K ⟨hf,k1,k2⟩
  refine ⟨(0,none),hf,⟨Nat.zero_le _,.inl ⟨rfl,rfl⟩⟩,?_⟩
  rintro e vs bs ⟨rfl,j,q1,rfl,rfl⟩
  cases hc:folF l t P Y k0 a O d with
  | none=>rw [q1 hc]; exact k1 hc
  | some cx=>obtain ⟨c,x⟩:=cx; exact k2 j c x hc
theorem lU4_ok (hl:lB l) (hp:pB l t.T.length) (ht:tB t) (hk:k0+1<=Y) (hY:Y<=4) (hy:y+(k0+1)=Y) (ha:leftB l a) (hpl:SpOk Try.prog (plnR l t P Y k0).1 (plnR l t P Y k0).2) :
  LSound Try.prog true (.block 4 (.loop (loopB 4 (bodyOf Try.prog 50)))) (ntOf Try.prog 50) (lU4 l t P Y k0 n s y a):=by
 rintro lock tt h K ⟨i,d,L,O,E,hf,⟨h1,h2,h3,h4⟩,k1,k2⟩
 refine pre_told (lU4s_ok (n:=n) (s:=s) (E:=E) (i:=i) (d:=d) hl hp ht hk hY hy ha hpl h1 h2 h3 h4) (T:=fun lock tt h K=>FitP lock h tt ⟨4,uN2.zip (uB2 t n E L.length (uF s L) (uG L))⟩ (uD4.zip (I 0::allD a l.length::.bool false::.sl 3 L.length::.sl 2 L.length::I d::uV0 l P n s y a i)) /\
  (folF l t P Y k0 a O d=none->K .normal (uD4.zip (uV4 l P n s y a i d L (allC a l.length).length false)) ⟨4,[0,1].zip (uB0 t n E)⟩) /\
  ∀ (j:Nat) (c:Nat->Int) (x:Rsl),folF l t P Y k0 a O d=some (c,x)->K .normal (uD4.zip (uV4 l P n s y a i d L j true)) ⟨4,[0,1].zip (uB0 t n (stF l k0 L c (fun q y'=>x (s (L.getD q 0)) (Y - k0+y')) E L.length))⟩) ?_ lock tt h K ⟨hf,k1,k2⟩
 rintro lock tt h K ⟨hf,k1,k2⟩
 exact ⟨_,_,hf,_,_,(told_one (d:=17) (b:=2) (L:=L.length) (s:=1) (g:=uF s L) (ty:=3) rfl rfl).trans (told_one (d:=18) (b:=3) (L:=L.length) (s:=1) (g:=uG L) (ty:=3) rfl rfl),⟨⟨rfl,rfl,VB.fit_refl _,VB.fit_refl _,trivial⟩,rfl,rfl,rfl,rfl,rfl,rfl,rfl,rfl,rfl,rfl,rfl,rfl,rfl,rfl,rfl,rfl,trivial⟩,k1,k2⟩
end
theorem bitsOf_ex (s:Nat->Nat):∀ n:Nat,∃ O,bitsOf n s O
 | 0=>⟨0,fun i=>⟨fun h=>(by rw [Nat.zero_testBit] at h; cases h),fun ⟨q,h,_⟩=>by omega⟩⟩
 | n+1=>by
  obtain ⟨O,h⟩:=bitsOf_ex s n
  refine ⟨O ||| 2 ^ (s n),fun i=>?_⟩
  rw [Nat.testBit_or,Bool.or_eq_true,h,Nat.testBit_two_pow]
  simp only [decide_eq_true_eq]
  constructor
  ·rintro (⟨q,h1,h2⟩ | h1)
   ·exact ⟨q,by omega,h2⟩
   ·exact ⟨n,by omega,h1⟩
  ·rintro ⟨q,h1,h2⟩
   by_cases e:q=n
   ·subst e; exact .inr h2
   ·exact .inl ⟨q,by omega,h2⟩
section
variable {l:List Stk} {t:Tst} {P:List (List Int)} {Y k0 n:Nat} {s:Nat->Nat} {S y:Nat} {a:Nat->Int}
theorem grp_bits (hS:bitsOf n s S) {i O:Nat} (hO:bitsOf (wlF P s y (ndP P (s i) y) n).length (fun q=>s ((wlF P s y (ndP P (s i) y) n).getD q 0)) O):isG P y S (s i) O:=fun i'=>by
 rw [hO i',hS i']
 constructor
 ·rintro ⟨q,h1,h2⟩
  obtain ⟨g1,g2⟩:=wlF_mem.1 (mem_of_getD h1)
  dsimp only at h2
  rw [h2] at g2
  exact ⟨⟨_,g1,h2⟩,g2⟩
 ·rintro ⟨⟨q,h1,rfl⟩,h2⟩
  obtain ⟨j,h3,h4⟩:=getD_of_mem (wlF_mem.2 ⟨h1,h2⟩)
  exact ⟨j,h3,by dsimp only; rw [h4]⟩
theorem isG_uniq {r i O O':Nat} (h:isG P y r i O) (h':isG P y r i O'):O=O':=by
 apply Nat.eq_of_testBit_eq
 intro j
 have h5:=h j
 have h6:=h' j
 cases hb:O.testBit j <;> cases hb':O'.testBit j <;> simp_all
def doneP (l:List Stk) (t:Tst) (P:List (List Int)) (Y k0:Nat) (s:Nat->Nat) (S y:Nat) (a:Nat->Int) (E:Nat->List VV) (q:Nat):Prop:=
 ∃ O c x',isG P y S (s q) O/\folF l t P Y k0 a O (ndP P (s q) y)=some (c,x')/\E q=uEl l k0 c (fun y'=>x' (s q) (Y - k0+y'))
def Out0 (l:List Stk) (t:Tst) (P:List (List Int)) (Y k0 n:Nat) (s:Nat->Nat) (S y:Nat) (a:Nat->Int) (_:Nat × (Nat->List VV)) (e:VEx) (vs:List VV) (bs:List VB):Prop:=
 (e=.ret/\planF l t P Y (k0+1) S a=none/\∃ i E,vs=uV0 l P n s y a i/\bs=uB0 t n E) ∨ (e=.exit 0/\∃ x E,planF l t P Y (k0+1) S a=some x/\(∀ q,q<n->E q=finE l Y k0 s x q)/\vs=uV0 l P n s y a n/\bs=uB0 t n E)
theorem lU0_ok (cf:Cfg l t P Y) (hk:k0+1<=Y) (hy:y+(k0+1)=Y) (ha:leftB l a) (hn:n<=100) (hS:bitsOf n s S) (hS2:S<2 ^ P.length) (hpl:SpOk Try.prog (plnR l t P Y k0).1 (plnR l t P Y k0).2) :
  LSound Try.prog true (.block 0 (.loop (loopB 0 (bodyOf Try.prog 50)))) (ntOf Try.prog 50) (lU0 l t P Y k0 n s S y a):=by
 have hYy:Y - (k0+1)=y:=by omega
 have hlt:∀ i,S.testBit i=true->i<P.length:=fun i hi=>by
  rcases Nat.lt_or_ge i P.length with h | h
  ·exact h
  ·rw [Nat.testBit_lt_two_pow (Nat.lt_of_lt_of_le hS2 (Nat.pow_le_pow_right (by omega) h))] at hi; cases hi
 have hsP:∀ q,q<n->s q<P.length:=fun q hq=>hlt _ ((hS _).2 ⟨q,hq,rfl⟩)
 have huk:uOk P n s y:=⟨hn,fun q hq=>⟨hsP q hq,by rw [cf.len _ (hsP q hq)]; omega⟩⟩
 have hpF:planF l t P Y (k0+1) S a=goF (fun o d=>folF l t P Y k0 a o d) P y S S (fun _ _ _=>0):=by
  rw [<- hYy]; rfl
 have htab:∀ f T,tabS [chsR l a] f=some T->SpOk Try.prog f T:=tab1 (chsR_ok l a)
 have hls:∀ id T,tabB [(2,lU2 l t P n s y a),(4,lU4 l t P Y k0 n s y a)] id=some T->∀ b' ∈ blocksOf id (loopB 0 (bodyOf Try.prog 50)),LSound Try.prog true (.block id b') (ntOf Try.prog 50) T:=lsp_many (fun x hx=>by
  simp only [List.mem_cons,List.not_mem_nil,or_false] at hx
  rcases hx with rfl | rfl
  ·exact ⟨_,by kernel_rfl,lU2_ok⟩
  ·exact ⟨_,by kernel_rfl,lU4_ok cf.hl cf.hp cf.ht hk cf.Y4 hy ha hpl⟩)
 refine loop_row hmix (noL_good htab) (un:=10) (lsp:=tabB [(2,lU2 l t P n s y a),(4,lU4 l t P Y k0 n s y a)]) (ds:=uD0) (ns:=[0,1]) (nx:=2) (fun p:Nat × (Nat->List VV)=>uV0 l P n s y a p.1) (fun p=>uB0 t n p.2) (fun p=>p.1<=n/\∀ q,q<n->(∃ q',q'<p.1/\ndP P (s q') y=ndP P (s q) y)->doneP l t P Y k0 s S y a p.2 q) (fun p=>n - p.1) (Out0 l t P Y k0 n s S y a) hls ?_ ?_
 ·rintro ⟨i,E⟩ ⟨h0,h1⟩
  dsimp only at h0 h1 ⊢
  refine cast (u0_ev l t P Y k0 n s y i a E _).symm ?_
  generalize hRQ:RoundQ (σ:=Nat × (Nat->List VV)) _ _ _ _ _ _=RQ
  refine cond_d (fun hlt2=>?_) (fun hlt2=>?_)
  ·have hi:i<n:=by omega
   obtain ⟨u1,u2⟩:=huk.2 i hi
   rw [show (i:Int).toNat=i by omega,show (y:Int).toNat=y by omega]
   rw [show ((s i:Nat):Int).toNat=s i by omega]
   refine cond_dk ⟨by omega,by omega⟩ (cond_dk ⟨by omega,by omega⟩ (cond_dk ⟨by omega,by omega⟩ ⟨i,ndP P (s i) y,E,⟨⟨rfl,rfl,VB.fit_refl _,VB.fit_refl _,trivial⟩,rfl,rfl,rfl,rfl,rfl,rfl,rfl,rfl,rfl,rfl,rfl,rfl,rfl,rfl,trivial⟩,huk,?_⟩))
   rintro L rfl
   have him:i ∈ wlF P s y (ndP P (s i) y) n:=wlF_mem.2 ⟨hi,rfl⟩
   have hpos:0<(wlF P s y (ndP P (s i) y) n).length:=List.length_pos_of_mem him
   have hfst:=wlF_first him
   have hm0:=wlF_mem.1 (mem_of_getD hpos)
   refine cond_dk ⟨by omega,by omega⟩ (cond_k (by rw [Nat.beq_refl]; rfl) (cond_k (Nat.beq_refl _) (cond_d (fun hlo=>?_) (fun hlo=>?_))))
   ·have hlo:(wlF P s y (ndP P (s i) y) n).getD 0 0<i:=by
     have h:=hlo
     rw [show Int.toNat 0=0 from rfl] at h
     omega
    refine cond_r (by omega) ?_
    rw [<- hRQ]
    refine ⟨(i+1,E),⟨hi,fun q hq ⟨q',g1,g2⟩=>?_⟩,by dsimp only; omega,rfl,fitBs_refl _,fun _ _ _ h=>h⟩
    by_cases e:q'=i
    ·subst e
     exact h1 q hq ⟨_,hlo,hm0.2.trans g2⟩
    ·exact h1 q hq ⟨q',by dsimp only at g1; omega,g2⟩
   ·obtain ⟨O,hO⟩:=bitsOf_ex (fun q=>s ((wlF P s y (ndP P (s i) y) n).getD q 0)) (wlF P s y (ndP P (s i) y) n).length
    have hG:=grp_bits hS hO
    have hO2:=isG_lt hS2 hG
    have hSi:S.testBit (s i)=true:=(hS _).2 ⟨i,hi,rfl⟩
    refine ⟨rfl,⟨ha,cf.hl.1⟩,i,ndP P (s i) y,wlF P s y (ndP P (s i) y) n,O,E,⟨⟨rfl,rfl,VB.fit_refl _,VB.fit_refl _,VB.fit_refl _,VB.fit_refl _,trivial⟩,rfl,rfl,rfl,rfl,rfl,rfl,rfl,rfl,rfl,rfl,rfl,rfl,rfl,rfl,rfl,rfl,trivial⟩,⟨fun q hq=>(wlF_mem.1 (mem_of_getD hq)).1,Nat.le_trans (wlF_le _) hn,hO,hO2⟩,fun hno=>?_,fun j c x hx=>cond_r (by omega) ?_⟩
    ·rw [<- hRQ]
     refine .inl ⟨rfl,?_,i,E,rfl,rfl⟩
     cases hx:planF l t P Y (k0+1) S a with
     | none=>rfl
     | some x=>
      rw [hpF] at hx
      obtain ⟨O',c,x',q1,q2,_⟩:=(goF_out cf.nd S _ hS2 hx).2 _ hSi
      rw [isG_uniq q1 hG,hno] at q2
      cases q2
    ·rw [<- hRQ]
     refine ⟨(i+1,stF l k0 (wlF P s y (ndP P (s i) y) n) c (fun q y'=>x (s ((wlF P s y (ndP P (s i) y) n).getD q 0)) (Y - k0+y')) E (wlF P s y (ndP P (s i) y) n).length),⟨hi,fun q hq ⟨q',g1,g2⟩=>?_⟩,by dsimp only; omega,rfl,fitBs_refl _,fun _ _ _ h=>h⟩
     obtain ⟨w1,w2⟩:=stF_get (l:=l) (s:=s) (k0:=k0) (L:=wlF P s y (ndP P (s i) y) n) (c:=c) (x:=x) (E:=E) (Y:=Y) (q:=q) _ (Nat.le_refl _)
     rw [List.take_length] at w1 w2
     by_cases e:ndP P (s q) y=ndP P (s i) y
     ·refine ⟨O,c,x,?_,by rw [e]; exact hx,w1 (wlF_mem.2 ⟨hq,e⟩)⟩
      intro i'
      rw [hG i',e]
     ·obtain ⟨O',c',x',q1,q2,q3⟩:=h1 q hq ⟨q',by
       by_cases e2:q'=i
       ·subst e2; exact (e g2.symm).elim
       ·dsimp only at g1; omega,g2⟩
      exact ⟨O',c',x',q1,q2,by dsimp only; rw [w2 (fun h=>e (wlF_mem.1 h).2)]; exact q3⟩
  ·have hi:i<=n:=h0
   obtain rfl:i=n:=by omega
   rw [<- hRQ]
   have hsome:(planF l t P Y (k0+1) S a).isSome=true:=by
    rw [hpF]
    refine goF_is cf.nd S _ hS2 (fun i' O hi' hO=>?_)
    obtain ⟨q,hq,rfl⟩:=(hS i').1 hi'
    obtain ⟨O',c',x',q1,q2,_⟩:=h1 q hq ⟨q,hq,rfl⟩
    rw [isG_uniq hO q1,q2]
    rfl
   cases hx:planF l t P Y (k0+1) S a with
   | none=>rw [hx] at hsome; cases hsome
   | some x=>
    refine .inr ⟨rfl,x,E,hx,fun q hq=>?_,rfl,rfl⟩
    obtain ⟨O',c',x',q1,q2,q3⟩:=h1 q hq ⟨q,hq,rfl⟩
    rw [hpF] at hx
    obtain ⟨O,c,x2,r1,r2,r3⟩:=(goF_out cf.nd S _ hS2 hx).2 _ ((hS _).2 ⟨q,hq,rfl⟩)
    rw [isG_uniq r1 q1,q2] at r2
    cases r2
    rw [q3]
    unfold finE
    rw [hYy,r3 y,if_pos rfl]
    congr 1
    funext y'
    rw [r3,if_neg (by omega)]
 ·rintro lock tt h K ⟨hf,k1,k2⟩
  refine ⟨(0,nilE),hf,⟨Nat.zero_le _,fun q _ ⟨q',h,_⟩=>absurd h (Nat.not_lt_zero _)⟩,?_⟩
  rintro e vs bs (⟨rfl,hx,i,E,rfl,rfl⟩ | ⟨rfl,x,E,hx,hE,rfl,rfl⟩)
  ·exact k1 hx i E
  ·exact k2 x E hx hE
theorem fin_wk (hk:k0+1<=Y) {x:Rsl} {q:Nat}:wkL (finE l Y k0 s x q) [.tl (k0+1) 1 (fun y'=>[chaD l (x (s q) (Y - (k0+1)+y'))])]:=by
 unfold finE uEl
 refine tl_weak (Nat.add_comm _ _) (fun y' hy'=>?_)
 cases y' with
 | zero=>
  rw [catG_lt (by omega)]
  exact tl_weak (Nat.zero_add _).symm (fun j hj=>by rw [catG_ge (Nat.zero_le _)]; exact wkL_refl _)
 | succ y'=>
  rw [catG_ge (by omega),show Y - (k0+1)+(y'+1)=Y - k0+(y'+1 - 1) by omega]
  exact wkL_refl _
theorem calls_tup {f:FuncId} {args:List VV} {h h':VH} {m L s:Nat} {g g':Nat->List VV} {ty:TypeId} {v:VV} (hc:CallsV Try.prog f args h (.ret (.tup [.sl m L,v])) h') (hm:h'.at m=.vec L g s ty) (hg:wkL [.tl L s g] [.tl L s g']):CallsV Try.prog f args h (.ret (.tup [.tl L s g',v])) ⟨h'.nx,(m,.gone)::h'.bs⟩:=by
 have h1:=calls_tell (v2:=.tup [.tl L s g,v]) hc hm (fun R R' x hle hv hx=>by
  obtain ⟨xs,⟨y0,ys,k1,k2,rfl⟩,rfl⟩:=hx
  exact ⟨_,⟨y0,_,hv y0 k1,VRelL.mono hle _ _ k2,rfl⟩,rfl⟩)
 refine calls_res h1 (fun R x hx=>?_)
 obtain ⟨xs,⟨y0,ys,k1,k2,rfl⟩,rfl⟩:=hx
 exact ⟨_,⟨y0,_,wk_one hg y0 k1,k2,rfl⟩,rfl⟩
end
section
variable {l:List Stk} {t:Tst} {P:List (List Int)} {Y:Nat}
def PlnV (l:List Stk) (t:Tst) (P:List (List Int)) (Y k n:Nat) (s:Nat->Nat) (S:Nat) (a:Nat->Int):Prop:=
 ∃ v h',CallsV Try.prog 50 [stD l,.agg (tsL t),pthD P,.tl n 1 (uS s),I ((Y:Int) - k),chaD l a] ⟨0,[]⟩ (.ret v) h'/\(planF l t P Y k S a=none->v=.tup [.nils,.bool false]) /\
  ∀ x:Rsl,planF l t P Y k S a=some x->v=.tup [resD l n k (fun q y'=>x (s q) (Y - k+y')),.bool true]
theorem plnR_of {k:Nat} (h:∀ (n:Nat) (s:Nat->Nat) (S:Nat) (a:Nat->Int),k<=Y->n<=100->bitsOf n s S->S<2 ^ P.length->leftB l a->PlnV l t P Y k n s S a):SpOk Try.prog (plnR l t P Y k).1 (plnR l t P Y k).2:=by
 intro lock args h0 K hK
 simp only [plnR] at hK
 split at hK
 ·obtain ⟨rfl,rfl,rfl,n,s,O,a,rfl,rfl,⟨rfl,h1,h2,h3,h4,h5⟩,k1,k2⟩:=hK
  obtain ⟨v,h',hc,q1,q2⟩:=h n s O a h1 h2 h3 h4 h5
  cases hx:planF l t P Y k O a with
  | none=>
   obtain rfl:=q1 hx
   exact ⟨_,h0,k1 hx,lockP_refl _ _,calls_lift0 hc rfl rfl⟩
  | some x=>
   obtain rfl:=q2 x hx
   exact ⟨_,h0,k2 x hx,lockP_refl _ _,calls_lift0 hc rfl rfl⟩
 ·exact hK.elim
theorem room24' {n:Nat} (h:n<=100):roomB (n:Int).toNat 24=true:=by
 rw [show (n:Int).toNat=n by omega]
 exact room24 (by omega)
theorem plan_z (cf:Cfg l t P Y) (hP:1<=P.length) (n:Nat) (s:Nat->Nat) (S:Nat) (a:Nat->Int) (hn:n<=100):PlnV l t P Y 0 n s S a:=by
 have h0:=cf.len 0 (by omega)
 obtain ⟨r,h',hk,hc⟩:=of_callN (callL_good hmix noSp (P:=Try.prog) (f:=50) (l:=[(0,lZ)]) (fun x hx=>by
  simp only [List.mem_singleton] at hx
  subst hx
  exact ⟨by kernel_rfl,lZ_ok⟩) (un:=10) 20) (f:=50) (args:=[stD l,.agg (tsL t),pthD P,.tl n 1 (uS s),I (Y:Nat),chaD l a]) (h:=⟨0,[]⟩) (K:=fun r h'=>r=.ret (.tup [.sl 1 n,.bool true])/\h'.at 1=.vec n (fun _=>[ofS (Value.slice none 0 0)]) 1 26) (by
  refine cast (uz_ev l t P n s Y a _).symm (cond_dk ⟨by omega,by omega⟩ (cond_k (room24' hn) (cond_dk ⟨by omega,by omega⟩ (cond_dk (by rw [show Int.toNat 0=0 from rfl,h0]) ?_))))
  rw [show (n:Int).toNat=n by omega]
  exact ⟨rfl,rfl⟩)
 obtain ⟨rfl,hm⟩:=hk
 have e:(Y:Int) - (0:Nat)=(Y:Nat):=by omega
 have hc2:=calls_tup (g':=fun q=>[.tl 0 1 (fun y'=>[chaD l ((fun _ _ _=>0:Rsl) (s q) (Y - 0+y'))])]) hc hm (tl_weak rfl (fun i hi=>wk_nil))
 refine ⟨_,_,by rw [e]; exact hc2,fun h=>(by cases h),fun x hx=>?_⟩
 cases hx
 rfl
theorem plan_v (cf:Cfg l t P Y) (hP:1<=P.length):∀ (k n:Nat) (s:Nat->Nat) (S:Nat) (a:Nat->Int),k<=Y->n<=100->bitsOf n s S->S<2 ^ P.length->leftB l a->PlnV l t P Y k n s S a
 | 0,n,s,S,a,_,hn,_,_,_=>plan_z cf hP n s S a hn
 | k+1,n,s,S,a,hk,hn,hS,hS2,ha=>by
  have h0:=cf.len 0 (by omega)
  have hpl:=plnR_of (k:=k) (fun n s S a h1 h2 h3 h4 h5=>plan_v cf hP k n s S a h1 h2 h3 h4 h5)
  have hl0:=lU0_ok (y:=Y - (k+1)) cf hk (by omega) ha hn hS hS2 hpl
  have hall:LoopsOk Try.prog 50 [(0,lU0 l t P Y k n s S (Y - (k+1)) a)]:=fun x hx=>by
   simp only [List.mem_singleton] at hx
   subst hx
   exact ⟨by kernel_rfl,hl0⟩
  obtain ⟨r,h',hk2,hc⟩:=of_callN (callL_good hmix noSp hall (un:=10) 20) (f:=50) (args:=[stD l,.agg (tsL t),pthD P,.tl n 1 (uS s),I (Y - (k+1):Nat),chaD l a]) (h:=⟨0,[]⟩) (K:=fun r h'=>(planF l t P Y (k+1) S a=none/\r=.ret (.tup [.nils,.bool false])) ∨ ∃ x E,planF l t P Y (k+1) S a=some x/\(∀ q,q<n->E q=finE l Y k s x q)/\r=.ret (.tup [.sl 1 n,.bool true])/\h'.at 1=.vec n E 1 26) (by
   refine cast (u_ev l t P Y k n s S (Y - (k+1)) a _).symm (cond_dk ⟨by omega,by omega⟩ (cond_k (room24' hn) (cond_dk ⟨by omega,by omega⟩ (cond_d (fun h=>?_) (fun _=>⟨fitP_self rfl,fun hx i E=>.inl ⟨hx,rfl⟩,fun x E hx hE=>.inr ⟨x,E,hx,hE,rfl,rfl⟩⟩)))))
   rw [show Int.toNat 0=0 from rfl,h0] at h
   omega)
  have e:(Y:Int) - (k+1:Nat)=(Y - (k+1):Nat):=by omega
  rcases hk2 with ⟨hx,rfl⟩ | ⟨x,E,hx,hE,rfl,hm⟩
  ·exact ⟨_,h',by rw [e]; exact hc,fun _=>rfl,fun x hx2=>by rw [hx] at hx2; cases hx2⟩
  ·have hc2:=calls_tup (g':=fun q=>[.tl (k+1) 1 (fun y'=>[chaD l (x (s q) (Y - (k+1)+y'))])]) hc hm (tl_weak rfl (fun q hq=>by rw [hE q hq]; exact fin_wk hk))
   refine ⟨_,_,by rw [e]; exact hc2,fun h=>(by rw [hx] at h; cases h),fun x2 hx2=>?_⟩
   rw [hx] at hx2
   cases hx2
   rfl
end
section
variable {p:List (List Int)}
theorem wide_v:∃ (b:Bool) (h':VH),CallsV Try.prog 15 [pthD p] ⟨0,[]⟩ (.ret (.bool b)) h'/\(b=false->p.length<=6/\∀ i,(p.getD i []).length<=6):=by
 obtain ⟨r,h',⟨b,rfl,hb⟩,hc⟩:=of_callN good0 (f:=15) (args:=[pthD p]) (h:=⟨0,[]⟩) (K:=fun r _=>∃ b:Bool,r=.ret (.bool b)/\(b=false->p.length<=6/\∀ i,(p.getD i []).length<=6)) (by
  have hge:∀ i,p.length<=i->(p.getD i []).length<=6:=fun i hi=>by
   rw [List.getD_eq_getElem?_getD,List.getElem?_eq_none hi]
   exact Nat.zero_le _
  have en:(∀ i,i<p.length->(p.getD i []).length<=6)->(decide ((p.length:Int) > 6)=false->p.length<=6/\∀ i,(p.getD i []).length<=6):=fun h hd=>by
   have hd:=of_decide_eq_false hd
   refine ⟨by omega,fun i=>?_⟩
   by_cases hi:i<p.length
   ·exact h i hi
   ·exact hge i (by omega)
  have tr:∃ b:Bool,VRes.ret (VV.bool true)=.ret (.bool b)/\(b=false->p.length<=6/\∀ i,(p.getD i []).length<=6):=⟨true,rfl,fun h=>by cases h⟩
  refine cast (wd_ev p _).symm ?_
  refine cond_d (fun a0=>cond_dk ⟨by omega,by omega⟩ (cond_d (fun _=>tr) (fun c0=>?_))) (fun a0=>⟨_,rfl,en (fun i hi=>by omega)⟩)
  refine cond_d (fun a1=>cond_dk ⟨by omega,by omega⟩ (cond_d (fun _=>tr) (fun c1=>?_))) (fun a1=>⟨_,rfl,en (fun i hi=>by
   obtain rfl:i=0:=by omega
   exact Nat.le_of_not_lt (fun h=>c0 (by show (6:Int)<_; exact_mod_cast h)))⟩)
  refine cond_d (fun a2=>cond_dk ⟨by omega,by omega⟩ (cond_d (fun _=>tr) (fun c2=>?_))) (fun a2=>⟨_,rfl,en (fun i hi=>?_)⟩)
  rotate_left
  ·rcases (by omega:i=0 ∨ i=1) with rfl | rfl
   ·exact Nat.le_of_not_lt (fun h=>c0 (by show (6:Int)<_; exact_mod_cast h))
   ·exact Nat.le_of_not_lt (fun h=>c1 (by show (6:Int)<_; exact_mod_cast h))
  refine cond_d (fun a3=>cond_dk ⟨by omega,by omega⟩ (cond_d (fun _=>tr) (fun c3=>?_))) (fun a3=>⟨_,rfl,en (fun i hi=>?_)⟩)
  rotate_left
  ·rcases (by omega:i=0 ∨ i=1 ∨ i=2) with rfl | rfl | rfl
   ·exact Nat.le_of_not_lt (fun h=>c0 (by show (6:Int)<_; exact_mod_cast h))
   ·exact Nat.le_of_not_lt (fun h=>c1 (by show (6:Int)<_; exact_mod_cast h))
   ·exact Nat.le_of_not_lt (fun h=>c2 (by show (6:Int)<_; exact_mod_cast h))
  refine cond_d (fun a4=>cond_dk ⟨by omega,by omega⟩ (cond_d (fun _=>tr) (fun c4=>?_))) (fun a4=>⟨_,rfl,en (fun i hi=>?_)⟩)
  rotate_left
  ·rcases (by omega:i=0 ∨ i=1 ∨ i=2 ∨ i=3) with rfl | rfl | rfl | rfl
   ·exact Nat.le_of_not_lt (fun h=>c0 (by show (6:Int)<_; exact_mod_cast h))
   ·exact Nat.le_of_not_lt (fun h=>c1 (by show (6:Int)<_; exact_mod_cast h))
   ·exact Nat.le_of_not_lt (fun h=>c2 (by show (6:Int)<_; exact_mod_cast h))
   ·exact Nat.le_of_not_lt (fun h=>c3 (by show (6:Int)<_; exact_mod_cast h))
  refine cond_d (fun a5=>cond_dk ⟨by omega,by omega⟩ (cond_d (fun _=>tr) (fun c5=>?_))) (fun a5=>⟨_,rfl,en (fun i hi=>?_)⟩)
  rotate_left
  ·rcases (by omega:i=0 ∨ i=1 ∨ i=2 ∨ i=3 ∨ i=4) with rfl | rfl | rfl | rfl | rfl
   ·exact Nat.le_of_not_lt (fun h=>c0 (by show (6:Int)<_; exact_mod_cast h))
   ·exact Nat.le_of_not_lt (fun h=>c1 (by show (6:Int)<_; exact_mod_cast h))
   ·exact Nat.le_of_not_lt (fun h=>c2 (by show (6:Int)<_; exact_mod_cast h))
   ·exact Nat.le_of_not_lt (fun h=>c3 (by show (6:Int)<_; exact_mod_cast h))
   ·exact Nat.le_of_not_lt (fun h=>c4 (by show (6:Int)<_; exact_mod_cast h))
  refine cond_d (fun a6=>cond_dk ⟨by omega,by omega⟩ (cond_d (fun _=>tr) (fun _=>?_))) (fun a6=>⟨_,rfl,en (fun i hi=>?_)⟩)
  rotate_left
  ·rcases (by omega:i=0 ∨ i=1 ∨ i=2 ∨ i=3 ∨ i=4 ∨ i=5) with rfl | rfl | rfl | rfl | rfl | rfl
   ·exact Nat.le_of_not_lt (fun h=>c0 (by show (6:Int)<_; exact_mod_cast h))
   ·exact Nat.le_of_not_lt (fun h=>c1 (by show (6:Int)<_; exact_mod_cast h))
   ·exact Nat.le_of_not_lt (fun h=>c2 (by show (6:Int)<_; exact_mod_cast h))
   ·exact Nat.le_of_not_lt (fun h=>c3 (by show (6:Int)<_; exact_mod_cast h))
   ·exact Nat.le_of_not_lt (fun h=>c4 (by show (6:Int)<_; exact_mod_cast h))
   ·exact Nat.le_of_not_lt (fun h=>c5 (by show (6:Int)<_; exact_mod_cast h))
  have ne:decide ((p.length:Int) > 6)=true:=decide_eq_true (by omega)
  exact cond_d (fun _=>⟨_,rfl,fun h=>by rw [ne] at h; cases h⟩) (fun _=>⟨_,rfl,fun h=>by rw [ne] at h; cases h⟩))
 exact ⟨b,h',hc,hb⟩
end
def BP3 (l:List Stk) (t:Tst) (P:List (List Int)) (Y:Nat) (M:Mde) (es:Lst):List VB:=[.cells (tsL t) 25,.cells [pthD P] 26,.cells (stD l::tsL t) 74,.cells [.ptr (.own 2 0)] 72,.cells [I Y] 3,.cells [sFa 7 Y,sFa 8 Y,sFa 9 Y] 76,.cells [.slice (.own 5 0) 3 3] 75,.fam [] (Y*6) (M 0) 80,.fam [] (Y*6) (M 1) 80,.fam [] (Y*6) (M 2) 80,
 .map kS .bool es,.cells [.mp 10] 77,.cells [.func 44 [] [.ptr (.own 4 0),.ptr (.own 11 0),.ptr (.own 1 0),.ptr (.own 13 0)]] 78,.cells [.func 40 [] [.ptr (.own 3 0),.ptr (.own 12 0),.ptr (.own 1 0),.ptr (.own 6 0)]] 88]
def nsB3:List Nat:=[0,1,2,3,4,5,6,7,8,9,10,11,12,13]
def findR3 (l:List Stk) (t:Tst) (P:List (List Int)) (Y k:Nat):FuncId × Spec1:=(44,fun lock args h K=>match args,h with
 | [.agg (.int .i64 y::.int .i64 S::ns),x1,x2,x3,x4],⟨nx,bs⟩=>∃ (S':Nat) (a:Nat->Int) (M:Mde) (es:Lst),(x1=.ptr (.own 4 0)/\x2=.ptr (.own 11 0)/\x3=.ptr (.own 1 0)/\x4=.ptr (.own 13 0))/\(lock=0/\14<=nx)/\atL nsB3 (BP3 l t P Y M es) ⟨nx,bs⟩/\(y=(Y:Int) - k/\S=S'/\ns=nL a)/\PreF l t P Y k S' a es /\
   ∀ (b:Bool) (s:St),PostF l t P Y k S' a M b s->K (.ret (.bool b)) ⟨nx,(7,.fam [] (Y*6) (s.M 0) 80)::(8,.fam [] (Y*6) (s.M 1) 80)::(9,.fam [] (Y*6) (s.M 2) 80)::(10,.map kS .bool s.es)::bs⟩
 | _,_=>False)
def folR3 (l:List Stk) (t:Tst) (P:List (List Int)) (Y k:Nat):FuncId × Spec1:=(40,fun lock args h K=>match args,h with
 | [.agg (.int .i64 y::.int .i64 S::ns),.int .i64 o,.int .i64 d,x1,x2,x3,x4],⟨nx,bs⟩=>∃ (S' O:Nat) (a:Nat->Int) (M:Mde) (es:Lst),(x1=.ptr (.own 3 0)/\x2=.ptr (.own 12 0)/\x3=.ptr (.own 1 0)/\x4=.ptr (.own 6 0))/\(lock=0/\14<=nx)/\atL nsB3 (BP3 l t P Y M es) ⟨nx,bs⟩/\(y=(Y:Int) - (k+1:Nat)/\S=S'/\o=O/\ns=nL a)/\PreW l t P Y k O a es /\
   ∀ (b:Bool) (s:St),PostW l t P Y k O d a M b s->K (.ret (.bool b)) ⟨nx,(7,.fam [] (Y*6) (s.M 0) 80)::(8,.fam [] (Y*6) (s.M 1) 80)::(9,.fam [] (Y*6) (s.M 2) 80)::(10,.map kS .bool s.es)::bs⟩
 | _,_=>False)
def slFo3 (y S own need:Int) (a:Nat->Int):Slots:=[(16,VV.func 74 [] [.ptr (.own 18 0),.ptr (.own 19 0)]),(15,VV.agg (nL a)),(14,VV.ptr (VA.own 14 2)),(13,.ptr (.own 2 0)),(10,.ptr (.own 17 0)),(9,.ptr (.own 16 0)),(8,.ptr (.own 15 0)),(7,.ptr (.own 14 0)),(0,VV.agg (I y::I S::nL a)),(1,I own),(2,I need),(3,.ptr (.own 3 0)),(4,.ptr (.own 12 0)),(5,.ptr (.own 1 0)),(6,.ptr (.own 6 0))]
def VFo3:List VV:=[.ptr (.own 21 0),.yld 20,.ptr (.own 18 0),.ptr (.own 19 0)]
def VFi3 (i:Int):List VV:=I i::VFo3
def nsFo3:List Nat:=[0,1,2,3,4,5,6,7,8,9,10,11,12,13,14,15,16,17,18,19,20,21]
noncomputable def BFo3 (l:List Stk) (t:Tst) (P:List (List Int)) (Y:Nat) (y S own need:Int) (a:Nat->Int) (M:Mde) (es:Lst) (n:Nat->Int):List VB:=BP3 l t P Y M es ++ [faS y S a,.cells [I own] 3,.cells [I need] 3,.cells [.bool false] 4,.cells [.ptr (.own 2 0)] 72,faN a,.loop true none (slFo3 y S own need a) 58 [17] asFo bdFo,.fam [] 6 n 80]
theorem ino3_ev (l:List Stk) (t:Tst) (P:List (List Int)) (Y:Nat) (y S own need i:Int) (a:Nat->Int) (M:Mde) (es:Lst) (n:Nat->Int) (X:VEx->List VV->List VB->Prop):codeE Try.prog (callN Try.prog noSpec noL 10 20) (fun _=>none) true 10 (ntOf Try.prog 74) 0 (loopB 2 (bodyOf Try.prog 74)) (dsI.zip (VFi3 i)) ⟨23,nsFo3.zip (BFo3 l t P Y y S own need a M es n)⟩ (obs 23 dsI nsFo3 X) =
 (bif decide (i ≥ (0:Int)) then
 bif decide ((0:Int)<=i/\i<(↑6:Int)) then
 bif decide (i.toNat*(1)<6) then
 bif decide ((0:Int)<=i/\i<(↑6:Int)) then
 bif decide (i.toNat*(1)<6) then
 bif decide (n (i.toNat*(1))=(fun (k:Nat)=>(ch a).getD k (0:Int)) (i.toNat*(1))) then
 bif decide ((0:Int)<=i/\i<(↑6:Int)) then
 bif decide (i.toNat*(1)+(1)<=6) then
 bif inK .i64 (i - (1:Int)) then
 X .normal [I (i - (1:Int)),VV.ptr (.own 21 0),VV.yld 20,VV.ptr (.own 18 0),VV.ptr (.own 19 0)] (BFo3 l t P Y y S own need a M es (setF n (i.toNat*(1)) [(0:Int)]))
 else False
 else False
 else False
 else X (.exit 2) [I i,VV.ptr (.own 21 0),VV.yld 20,VV.ptr (.own 18 0),VV.ptr (.own 19 0)] (BFo3 l t P Y y S own need a M es n)
 else False
 else False
 else False
 else False
 else X (.exit 2) [I i,VV.ptr (.own 21 0),VV.yld 20,VV.ptr (.own 18 0),VV.ptr (.own 19 0)] (BFo3 l t P Y y S own need a M es n)):=by kernel_rfl
noncomputable abbrev BQf3 (l:List Stk) (t:Tst) (P:List (List Int)) (Y:Nat) (y S own need:Int) (a:Nat->Int) (A0 A1 A2:Nat->Int) (es:Lst) (b:Bool) (n:Nat->Int):List VB:=[.cells (tsL t) 25,.cells [pthD P] 26,.cells (stD l::tsL t) 74,.cells [.ptr (.own 2 0)] 72,.cells [I Y] 3,.cells [sFa 7 Y,sFa 8 Y,sFa 9 Y] 76,.cells [.slice (.own 5 0) 3 3] 75,.fam [] (Y*6) A0 80,.fam [] (Y*6) A1 80,.fam [] (Y*6) A2 80,
 .map kS .bool es,.cells [.mp 10] 77,.cells [.func 44 [] [.ptr (.own 4 0),.ptr (.own 11 0),.ptr (.own 1 0),.ptr (.own 13 0)]] 78,.cells [.func 40 [] [.ptr (.own 3 0),.ptr (.own 12 0),.ptr (.own 1 0),.ptr (.own 6 0)]] 88] ++ [faS y S a,.cells [I own] 3,.cells [I need] 3,.cells [.bool b] 4,.cells [.ptr (.own 2 0)] 72,faN a,.loop (!b) (bif b then some .ret else none) (slFo3 y S own need a) 58 [17] asFo bdFo,.fam [] 6 n 80]
noncomputable def lIo3 (l:List Stk) (t:Tst) (P:List (List Int)) (Y:Nat) (y S own need:Int) (a:Nat->Int):LT:=fun lock tt h K=>
 ∃ M es n,FitP lock h tt ⟨23,nsFo3.zip (BFo3 l t P Y y S own need a M es n)⟩ (dsI.zip (VFi3 (l.length - 1)))/\l.length<=6/\∀ (k:Nat) (n':Nat->Int),scanC a l.length n=(k,n')->K .normal (dsI.zip (VFi3 (k - 1))) ⟨23,nsFo3.zip (BFo3 l t P Y y S own need a M es n')⟩
theorem fr3_ev (l:List Stk) (t:Tst) (D0 D1 D2:List Int) (Y k:Nat) (M:Mde) (es:Lst) (y S need:Int) (O:Nat) (a n:Nat->Int) (X:VEx->List VV->List VB->Prop):codeE Try.prog (callN Try.prog (tabS [meetsR l t,lessT,findR3 l t [D0,D1,D2] Y k]) noL 10 20) (tabB [(2,lIo3 l t [D0,D1,D2] Y y S O need a)]) true 10 (ntOf Try.prog 74) 0 (loopB 0 (bodyOf Try.prog 74)) (dsC.zip VFo3) ⟨22,nsFo3.zip (BFo3 l t [D0,D1,D2] Y y S O need a M es n)⟩ (obs 22 dsC nsFo3 X) =
 (let z1:=[n (0+0),n (0+1),n (0+2),n (0+3),n (0+4),n (0+5)];
 let z2:=[VV.ptr (.own 21 0),VV.yld 20,VV.ptr (.own 18 0),VV.ptr (.own 19 0)];
 let z3:=(IntKind.i64.wrap (↑(BitVec.ofInt IntKind.i64.bits ((↑O:Int).fdiv ((2:Int) ^ min ((0:Int)+(1:Int)+(1:Int)).toNat IntKind.i64.bits)) &&& BitVec.ofInt IntKind.i64.bits (1:Int)).toNat:Int)=(1:Int));
 let z4:=((5,I ((↑l.length:Int) - (1:Int)))::(15,I ((↑l.length:Int) - (1:Int)))::(14,I (↑l.length:Int))::(13,VV.tl l.length 5 (stG l))::(12,VV.ptr (.own 2 0))::(11,VV.ptr (.own 2 0))::(10,VV.ptr (.own 2 0))::(9,VV.bool false)::(9,VV.bool !true)::(8,VV.bool true)::(7,VV.agg [I (n (0+0)),I (n (0+1)),I (n (0+2)),I (n (0+3)),I (n (0+4)),I (n (0+5))])::(6,VV.yld 20)::dsC.zip VFo3);
 let z5:=[I (setF (fun (_:Nat)=>(0:Int)) 0 z1 (0+0)),I (setF (fun (_:Nat)=>(0:Int)) 0 z1 (0+1)),I (setF (fun (_:Nat)=>(0:Int)) 0 z1 (0+2)),I (setF (fun (_:Nat)=>(0:Int)) 0 z1 (0+3)),I (setF (fun (_:Nat)=>(0:Int)) 0 z1 (0+4)),I (setF (fun (_:Nat)=>(0:Int)) 0 z1 (0+5))];
 let z6:=(VH.mk (23) ((20,VB.gone)::(22,VB.fam [] (6) (setF (fun (_:Nat)=>(0:Int)) 0 z1) 80)::(22,VB.fam [] (6) (fun (_:Nat)=>(0:Int)) 80)::nsFo3.zip (BFo3 l t [D0,D1,D2] Y y S (↑O:Int) need a M es n)));
 let z7:=(IntKind.i64.wrap (↑(BitVec.ofInt IntKind.i64.bits ((↑O:Int).fdiv ((2:Int) ^ min ((0:Int)+(1:Int)).toNat IntKind.i64.bits)) &&& BitVec.ofInt IntKind.i64.bits (1:Int)).toNat:Int)=(1:Int));
 let z8:=(fun (k:Nat)=>(ch a).getD k (0:Int));
 (∃ (n_1:Nat->Int),isD z6 4 (VV.ptr (.own 2 0)) (VV.tp (stD l::tsL t))/\z5=nL n_1/\(conB l t n_1/\(0:Int)<=y/\y<=(1000:Int))/\bif !meetsF l t n_1 y need then
 bif inK .i64 ((↑l.length:Int) - (1:Int)) then
 ∃ (M_1:Mde),∃ (es_1:Lst),∃ (n_2:Nat->Int),FitP 0 (VH.mk (23) ((20,VB.loop true none (slFo3 y S (↑O:Int) need a) 58 [17] asFo bdFo)::(20,VB.gone)::(22,VB.fam [] (6) (setF (fun (_:Nat)=>(0:Int)) 0 z1) 80)::(22,VB.fam [] (6) (fun (_:Nat)=>(0:Int)) 80)::nsFo3.zip (BFo3 l t [D0,D1,D2] Y y S (↑O:Int) need a M es n))) z4 (VH.mk 23 (nsFo3.zip (BFo3 l t [D0,D1,D2] Y y S (↑O:Int) need a M_1 es_1 n_2))) (dsI.zip (VFi3 ((↑l.length:Int) - (1:Int))))/\l.length<=6/\∀ (k:Nat) (n':Nat->Int),scanC a l.length n_2=(k,n')->bif decide ((↑k:Int) - (1:Int)<(0:Int)) then
 X .ret z2 (BFo3 l t [D0,D1,D2] Y y S O need a M_1 es_1 n')
 else bif decide ((0:Int)<=(↑k:Int) - (1:Int)/\(↑k:Int) - (1:Int)<(↑6:Int)) then
 bif decide (((↑k:Int) - (1:Int)).toNat*(1)<6) then
 bif inK .i64 (n' (((↑k:Int) - (1:Int)).toNat*(1))+(1:Int)) then
 bif decide ((0:Int)<=(↑k:Int) - (1:Int)/\(↑k:Int) - (1:Int)<(↑6:Int)) then
 bif decide (((↑k:Int) - (1:Int)).toNat*(1)+(1)<=6) then
 X .normal z2 (BFo3 l t [D0,D1,D2] Y y S O need a M_1 es_1 (setF n' (((↑k:Int) - (1:Int)).toNat*(1)) [n' (((↑k:Int) - (1:Int)).toNat*(1))+(1:Int)]))
 else False
 else False
 else False
 else False
 else False
 else False
 else bif inK .i64 (y+(1:Int)) then
 ∃ (a_1:Nat->Int),∃ (b:Nat->Int),[I (z8 (0+0)),I (z8 (0+1)),I (z8 (0+2)),I (z8 (0+3)),I (z8 (0+4)),I (z8 (0+5))]=nL a_1/\z5=nL b/\bdL a_1 b/\∃ (S':Nat),∃ (a_2:Nat->Int),∃ (M_1:Mde),∃ (es_1:Lst),(VV.ptr (.own 4 0)=VV.ptr (.own 4 0)/\VV.ptr (.own 11 0)=VV.ptr (.own 11 0)/\VV.ptr (.own 1 0)=VV.ptr (.own 1 0)/\VV.ptr (.own 13 0)=VV.ptr (.own 13 0))/\(0=0/\14<=23)/\atL nsB3 (BP3 l t [D0,D1,D2] Y M_1 es_1) z6/\(y+(1:Int)=(↑Y:Int) - (↑k:Int)/\(↑O:Int)=(↑S':Int)/\[I (lsF a_1 b 6 0),I (lsF a_1 b 6 1),I (lsF a_1 b 6 2),I (lsF a_1 b 6 3),I (lsF a_1 b 6 4),I (lsF a_1 b 6 5)]=nL a_2)/\PreF l t [D0,D1,D2] Y k S' a_2 es_1/\∀ (b:Bool) (s:St),PostF l t [D0,D1,D2] Y k S' a_2 M_1 b s->bif !b then
 bif inK .i64 ((↑l.length:Int) - (1:Int)) then
 ∃ (M_2:Mde),∃ (es_2:Lst),∃ (n_2:Nat->Int),FitP 0 (VH.mk (23) ((20,VB.loop true none (slFo3 y S (↑O:Int) need a) 58 [17] asFo bdFo)::(7,VB.fam [] (Y*6) (s.M 0) 80)::(8,VB.fam [] (Y*6) (s.M 1) 80)::(9,VB.fam [] (Y*6) (s.M 2) 80)::(10,VB.map kS PK.bool s.es)::(20,VB.gone)::(22,VB.fam [] (6) (setF (fun (_:Nat)=>(0:Int)) 0 z1) 80)::(22,VB.fam [] (6) (fun (_:Nat)=>(0:Int)) 80)::nsFo3.zip (BFo3 l t [D0,D1,D2] Y y S (↑O:Int) need a M es n))) z4 (VH.mk 23 (nsFo3.zip (BFo3 l t [D0,D1,D2] Y y S (↑O:Int) need a M_2 es_2 n_2))) (dsI.zip (VFi3 ((↑l.length:Int) - (1:Int))))/\l.length<=6/\∀ (k:Nat) (n':Nat->Int),scanC a l.length n_2=(k,n')->bif decide ((↑k:Int) - (1:Int)<(0:Int)) then
 X .ret z2 (BFo3 l t [D0,D1,D2] Y y S O need a M_2 es_2 n')
 else bif decide ((0:Int)<=(↑k:Int) - (1:Int)/\(↑k:Int) - (1:Int)<(↑6:Int)) then
 bif decide (((↑k:Int) - (1:Int)).toNat*(1)<6) then
 bif inK .i64 (n' (((↑k:Int) - (1:Int)).toNat*(1))+(1:Int)) then
 bif decide ((0:Int)<=(↑k:Int) - (1:Int)/\(↑k:Int) - (1:Int)<(↑6:Int)) then
 bif decide (((↑k:Int) - (1:Int)).toNat*(1)+(1)<=6) then
 X .normal z2 (BFo3 l t [D0,D1,D2] Y y S O need a M_2 es_2 (setF n' (((↑k:Int) - (1:Int)).toNat*(1)) [n' (((↑k:Int) - (1:Int)).toNat*(1))+(1:Int)]))
 else False
 else False
 else False
 else False
 else False
 else False
 else bif decide (IntKind.i64.wrap (↑(BitVec.ofInt IntKind.i64.bits ((↑O:Int).fdiv ((2:Int) ^ min (Int.toNat (0:Int)) IntKind.i64.bits)) &&& BitVec.ofInt IntKind.i64.bits (1:Int)).toNat:Int)=(1:Int)) then
 bif decide ((0:Int)<=y/\y<(↑Y:Int)) then
 bif decide (0+y.toNat*(6)+(6)<=Y*6) then
 bif decide z7 then
 bif decide ((0:Int)<=y/\y<(↑Y:Int)) then
 bif decide (0+y.toNat*(6)+(6)<=Y*6) then
 bif decide z3 then
 bif decide ((0:Int)<=y/\y<(↑Y:Int)) then
 bif decide (0+y.toNat*(6)+(6)<=Y*6) then
 X .ret z2 (BQf3 l t [D0,D1,D2] Y y S O need a (s6 s 0 y n) (s6 s 1 y n) (s6 s 2 y n) s.es true n)
 else False
 else False
 else X .ret z2 (BQf3 l t [D0,D1,D2] Y y S O need a (s6 s 0 y n) (s6 s 1 y n) (s.M 2) s.es true n)
 else False
 else False
 else bif decide z3 then
 bif decide ((0:Int)<=y/\y<(↑Y:Int)) then
 bif decide (0+y.toNat*(6)+(6)<=Y*6) then
 X .ret z2 (BQf3 l t [D0,D1,D2] Y y S O need a (s6 s 0 y n) (s.M 1) (s6 s 2 y n) s.es true n)
 else False
 else False
 else X .ret z2 (BQf3 l t [D0,D1,D2] Y y S O need a (s6 s 0 y n) (s.M 1) (s.M 2) s.es true n)
 else False
 else False
 else bif decide z7 then
 bif decide ((0:Int)<=y/\y<(↑Y:Int)) then
 bif decide (0+y.toNat*(6)+(6)<=Y*6) then
 bif decide z3 then
 bif decide ((0:Int)<=y/\y<(↑Y:Int)) then
 bif decide (0+y.toNat*(6)+(6)<=Y*6) then
 X .ret z2 (BQf3 l t [D0,D1,D2] Y y S O need a (s.M 0) (s6 s 1 y n) (s6 s 2 y n) s.es true n)
 else False
 else False
 else X .ret z2 (BQf3 l t [D0,D1,D2] Y y S O need a (s.M 0) (s6 s 1 y n) (s.M 2) s.es true n)
 else False
 else False
 else bif decide z3 then
 bif decide ((0:Int)<=y/\y<(↑Y:Int)) then
 bif decide (0+y.toNat*(6)+(6)<=Y*6) then
 X .ret z2 (BQf3 l t [D0,D1,D2] Y y S O need a (s.M 0) (s.M 1) (s6 s 2 y n) s.es true n)
 else False
 else False
 else X .ret z2 (BQf3 l t [D0,D1,D2] Y y S O need a (s.M 0) (s.M 1) (s.M 2) s.es true n)
 else False)):=by kernel_rfl
noncomputable def BFoT3 (l:List Stk) (t:Tst) (P:List (List Int)) (Y:Nat) (y S own need:Int) (a:Nat->Int) (M:Mde) (es:Lst) (n:Nat->Int):List VB:=BP3 l t P Y M es ++ [faS y S a,.cells [I own] 3,.cells [I need] 3,.cells [.bool true] 4,.cells [.ptr (.own 2 0)] 72,faN a,.loop false (some .ret) (slFo3 y S own need a) 58 [17] asFo bdFo,.fam [] 6 n 80]
noncomputable def lFo3 (l:List Stk) (t:Tst) (P:List (List Int)) (Y k:Nat) (y S d:Int) (O:Nat) (a:Nat->Int):LT:=fun lock tt h K=>
 ∃ M es,FitP lock h tt ⟨22,nsFo3.zip (BFo3 l t P Y y S O d a M es fun _=>0)⟩ (dsC.zip VFo3)/\(y=(Y:Int) - (k+1:Nat)/\Cfg l t P Y/\PreW l t P Y k O a es)/\(∀ s n',PostW l t P Y k O d a M false s->K .ret (dsC.zip VFo3) ⟨22,nsFo3.zip (BFo3 l t P Y y S O d a s.M s.es n')⟩) /\
  ∀ s n',PostW l t P Y k O d a M true s->K .ret (dsC.zip VFo3) ⟨22,nsFo3.zip (BFoT3 l t P Y y S O d a s.M s.es n')⟩
theorem fob3_ev (l:List Stk) (t:Tst) (D0 D1 D2:List Int) (Y k:Nat) (M:Mde) (es:Lst) (y S d:Int) (O:Nat) (a:Nat->Int) (Q:VRes->VH->Prop):callN Try.prog noSpec (atF 74 [(0,lFo3 l t [D0,D1,D2] Y k y S d O a)]) 10 20 0 (.fn 40) [.agg (I y::I S::nL a),I O,I d,.ptr (.own 3 0),.ptr (.own 12 0),.ptr (.own 1 0),.ptr (.own 6 0)] ⟨14,nsB3.zip (BP3 l t [D0,D1,D2] Y M es)⟩ (fun r h=>Q r h) =
 (∃ (M_1:Mde),∃ (es_1:Lst),FitP 0 (VH.mk (22) ((21,VB.fam [] (6) (fun (_:Nat)=>(0:Int)) 80)::(20,VB.loop true none [(16,VV.func 74 [] [VV.ptr (.own (18) 0),VV.ptr (.own (19) 0)]),(15,VV.agg [I ((f6 a) (0+0)),I ((f6 a) (0+1)),I ((f6 a) (0+2)),I ((f6 a) (0+3)),I ((f6 a) (0+4)),I ((f6 a) (0+5))]),(14,VV.ptr (.own (14) (2))),(13,VV.ptr (.own 2 0)),(10,VV.ptr (.own (17) 0)),(9,VV.ptr (.own (16) 0)),(8,VV.ptr (.own (15) 0)),(7,VV.ptr (.own (14) 0)),(0,VV.agg (I y::I S::nL a)),(1,I (↑O:Int)),(2,I d),(3,VV.ptr (.own 3 0)),(4,VV.ptr (.own 12 0)),(5,VV.ptr (.own 1 0)),(6,VV.ptr (.own 6 0))] 58 [17] asFo bdFo)::(19,VB.fam [] (6) (fun (k:Nat)=>[(f6 a) (0+0),(f6 a) (0+1),(f6 a) (0+2),(f6 a) (0+3),(f6 a) (0+4),(f6 a) (0+5)].getD k (0:Int)) 80)::(18,VB.cells [VV.ptr (.own 2 0)] 72)::(17,VB.cells [VV.bool false] 4)::(16,VB.cells [I d] 3)::(15,VB.cells [I (↑O:Int)] 3)::(14,VB.fam [I y,I S] (6) (f6 a) 82)::nsB3.zip (BP3 l t [D0,D1,D2] Y M es))) [(4,VV.ptr (.own (21) 0)),(0,VV.yld (20)),(1,VV.ptr (.own (18) 0)),(2,VV.ptr (.own (19) 0))] (VH.mk 22 (nsFo3.zip (BFo3 l t [D0,D1,D2] Y y S (↑O:Int) d a M_1 es_1 fun (_:Nat)=>(0:Int)))) (dsC.zip VFo3)/\(y=(↑Y:Int) - (↑(k+1):Int)/\Cfg l t [D0,D1,D2] Y/\PreW l t [D0,D1,D2] Y k O a es_1)/\(∀ (s:St) (n':Nat->Int),PostW l t [D0,D1,D2] Y k O d a M_1 false s->Q (.ret (.bool false)) (VH.mk 22 [(17,VB.cells [VV.bool false] 4),(20,VB.gone),(0,VB.cells [VV.tl t.T.length 1 (dG t.T),I t.far,I t.least] 25),(1,VB.cells [VV.tl [D0,D1,D2].length 1 (pthG [D0,D1,D2])] 26),(2,VB.cells (stD l::tsL t) 74),(3,VB.cells [VV.ptr (.own 2 0)] 72),(4,VB.cells [I (↑Y:Int)] 3),(5,VB.cells [sFa 7 Y,sFa 8 Y,sFa 9 Y] 76),(6,VB.cells [VV.slice (.own 5 0) 3 3] 75),(7,VB.fam [] (Y*6) (s.M 0) 80),(8,VB.fam [] (Y*6) (s.M 1) 80),(9,VB.fam [] (Y*6) (s.M 2) 80),(10,VB.map kS PK.bool s.es),(11,VB.cells [VV.mp 10] 77),(12,VB.cells [VV.func 44 [] [VV.ptr (.own 4 0),VV.ptr (.own 11 0),VV.ptr (.own 1 0),VV.ptr (.own 13 0)]] 78),(13,VB.cells [VV.func 40 [] [VV.ptr (.own 3 0),VV.ptr (.own 12 0),VV.ptr (.own 1 0),VV.ptr (.own 6 0)]] 88),(14,VB.fam [I y,I S] 6 (fun (k:Nat)=>(ch a).getD k (0:Int)) 82),(15,VB.cells [I (↑O:Int)] 3),(16,VB.cells [I d] 3),(17,VB.cells [VV.bool false] 4),(18,VB.cells [VV.ptr (.own 2 0)] 72),(19,VB.fam [] 6 (fun (k:Nat)=>(ch a).getD k (0:Int)) 80),(20,VB.loop true none (slFo3 y S (↑O:Int) d a) 58 [17] asFo bdFo),(21,VB.fam [] 6 n' 80)]))/\∀ (s:St) (n':Nat->Int),PostW l t [D0,D1,D2] Y k O d a M_1 true s->Q (.ret (.bool true)) (VH.mk 22 [(20,VB.gone),(0,VB.cells [VV.tl t.T.length 1 (dG t.T),I t.far,I t.least] 25),(1,VB.cells [VV.tl [D0,D1,D2].length 1 (pthG [D0,D1,D2])] 26),(2,VB.cells (stD l::tsL t) 74),(3,VB.cells [VV.ptr (.own 2 0)] 72),(4,VB.cells [I (↑Y:Int)] 3),(5,VB.cells [sFa 7 Y,sFa 8 Y,sFa 9 Y] 76),(6,VB.cells [VV.slice (.own 5 0) 3 3] 75),(7,VB.fam [] (Y*6) (s.M 0) 80),(8,VB.fam [] (Y*6) (s.M 1) 80),(9,VB.fam [] (Y*6) (s.M 2) 80),(10,VB.map kS PK.bool s.es),(11,VB.cells [VV.mp 10] 77),(12,VB.cells [VV.func 44 [] [VV.ptr (.own 4 0),VV.ptr (.own 11 0),VV.ptr (.own 1 0),VV.ptr (.own 13 0)]] 78),(13,VB.cells [VV.func 40 [] [VV.ptr (.own 3 0),VV.ptr (.own 12 0),VV.ptr (.own 1 0),VV.ptr (.own 6 0)]] 88),(14,VB.fam [I y,I S] 6 (fun (k:Nat)=>(ch a).getD k (0:Int)) 82),(15,VB.cells [I (↑O:Int)] 3),(16,VB.cells [I d] 3),(17,VB.cells [VV.bool true] 4),(18,VB.cells [VV.ptr (.own 2 0)] 72),(19,VB.fam [] 6 (fun (k:Nat)=>(ch a).getD k (0:Int)) 80),(20,VB.loop false (some VEx.ret) (slFo3 y S (↑O:Int) d a) 58 [17] asFo bdFo),(21,VB.fam [] 6 n' 80)])):=by kernel_rfl
def dsF3:List Nat:=[7,6,5,0,1,2,3,4]
def VF3 (y S:Int) (a:Nat->Int) (r:Int):List VV:=[I r,.bool false,.ptr (.own 14 0),.agg (I y::I S::nL a),.ptr (.own 4 0),.ptr (.own 11 0),.ptr (.own 1 0),.ptr (.own 13 0)]
def nsF3:List Nat:=[0,1,2,3,4,5,6,7,8,9,10,11,12,13,14]
def BF3 (l:List Stk) (t:Tst) (P:List (List Int)) (Y:Nat) (y S:Int) (a:Nat->Int) (M:Mde) (es:Lst):List VB:=BP3 l t P Y M es ++ [faS y S a]
def dsG3:List Nat:=[25,24,23,9,8] ++ dsF3
def VG3 (P:List (List Int)) (y S:Int) (a:Nat->Int) (r i d o:Int):List VV:=[I i,I P.length,pthD P,I d,I o] ++ VF3 y S a r
theorem gi3_ev (l:List Stk) (t:Tst) (P:List (List Int)) (Y:Nat) (M:Mde) (es:Lst) (y S i d:Int) (o r:Nat) (a:Nat->Int) (X:VEx->List VV->List VB->Prop):codeE Try.prog (callN Try.prog noSpec noL 10 20) (fun _=>none) true 10 (ntOf Try.prog 44) 0 (loopB 2 (bodyOf Try.prog 44)) (dsG3.zip (VG3 P y S a r i d o)) ⟨15,nsF3.zip (BF3 l t P Y y S a M es)⟩ (obs 15 dsG3 nsF3 X) =
 (let z1:=[VB.cells [VV.tl t.T.length 1 (dG t.T),I t.far,I t.least] 25,VB.cells [VV.tl P.length 1 (pthG P)] 26,VB.cells (stD l::tsL t) 74,VB.cells [VV.ptr (.own 2 0)] 72,VB.cells [I (↑Y:Int)] 3,VB.cells [sFa 7 Y,sFa 8 Y,sFa 9 Y] 76,VB.cells [VV.slice (.own 5 0) 3 3] 75,VB.fam [] (Y*6) (M 0) 80,VB.fam [] (Y*6) (M 1) 80,VB.fam [] (Y*6) (M 2) 80,VB.map kS PK.bool es,VB.cells [VV.mp 10] 77,VB.cells [VV.func 44 [] [VV.ptr (.own 4 0),VV.ptr (.own 11 0),VV.ptr (.own 1 0),VV.ptr (.own 13 0)]] 78,VB.cells [VV.func 40 [] [VV.ptr (.own 3 0),VV.ptr (.own 12 0),VV.ptr (.own 1 0),VV.ptr (.own 6 0)]] 88,VB.fam [I y,I S] 6 (fun (k:Nat)=>(ch a).getD k (0:Int)) 82];
 let z2:=[I (i+(1:Int)),I (↑P.length:Int),VV.tl P.length 1 (pthG P),I ((P.getD i.toNat []).getD y.toNat (0:Int)),I (IntKind.i64.wrap (↑(BitVec.ofInt IntKind.i64.bits (↑o:Int) ||| BitVec.ofInt IntKind.i64.bits ((1:Int)*(2:Int) ^ min i.toNat IntKind.i64.bits)).toNat:Int)),I (↑r:Int),VV.bool false,VV.ptr (.own 14 0),VV.agg [I y,I S,I (a 0),I (a 1),I (a 2),I (a 3),I (a 4),I (a 5)],VV.ptr (.own 4 0),VV.ptr (.own 11 0),VV.ptr (.own 1 0),VV.ptr (.own 13 0)];
 let z3:=[I (i+(1:Int)),I (↑P.length:Int),VV.tl P.length 1 (pthG P),I d,I (↑o:Int),I (↑r:Int),VV.bool false,VV.ptr (.own 14 0),VV.agg [I y,I S,I (a 0),I (a 1),I (a 2),I (a 3),I (a 4),I (a 5)],VV.ptr (.own 4 0),VV.ptr (.own 11 0),VV.ptr (.own 1 0),VV.ptr (.own 13 0)];
 (bif decide (i<(↑P.length:Int)) then
 bif decide ((0:Int)<=i/\i<(↑P.length:Int)) then
 bif decide (i<(0:Int)) then
 False
 else bif decide (IntKind.i64.wrap (↑(BitVec.ofInt IntKind.i64.bits ((↑r:Int).fdiv ((2:Int) ^ min i.toNat IntKind.i64.bits)) &&& BitVec.ofInt IntKind.i64.bits (1:Int)).toNat:Int)=(1:Int)) then
 bif decide (d<(0:Int)) then
 bif decide (i<(0:Int)) then
 False
 else bif inK .i64 ((1:Int)*(2:Int) ^ min i.toNat IntKind.i64.bits) then
 bif decide ((0:Int)<=y/\y<(↑(P.getD i.toNat []).length:Int)) then
 bif inK .i64 (i+(1:Int)) then
 X .normal z2 z1
 else False
 else False
 else False
 else bif decide ((0:Int)<=y/\y<(↑(P.getD i.toNat []).length:Int)) then
 bif decide ((P.getD i.toNat []).getD y.toNat (0:Int)=d) then
 bif decide (i<(0:Int)) then
 False
 else bif inK .i64 ((1:Int)*(2:Int) ^ min i.toNat IntKind.i64.bits) then
 bif decide ((0:Int)<=y/\y<(↑(P.getD i.toNat []).length:Int)) then
 bif inK .i64 (i+(1:Int)) then
 X .normal z2 z1
 else False
 else False
 else False
 else bif inK .i64 (i+(1:Int)) then
 X .normal z3 z1
 else False
 else False
 else bif inK .i64 (i+(1:Int)) then
 X .normal z3 z1
 else False
 else False
 else X (.exit 2) [I i,I (↑P.length:Int),VV.tl P.length 1 (pthG P),I d,I (↑o:Int),I (↑r:Int),VV.bool false,VV.ptr (.own 14 0),VV.agg [I y,I S,I (a 0),I (a 1),I (a 2),I (a 3),I (a 4),I (a 5)],VV.ptr (.own 4 0),VV.ptr (.own 11 0),VV.ptr (.own 1 0),VV.ptr (.own 13 0)] z1)):=by kernel_rfl
def lG3 (l:List Stk) (t:Tst) (P:List (List Int)) (Y k:Nat) (y S:Int) (a:Nat->Int) (r:Nat):LT:=fun lock tt h K=>
 ∃ M es,FitP lock h tt ⟨15,nsF3.zip (BF3 l t P Y y S a M es)⟩ (dsG3.zip (VG3 P y S a r 0 (-1) 0))/\(y=((Y - (k+1):Nat):Int)/\k+1<=Y/\Cfg l t P Y/\r<16)/\∀ o d,grpF P (Y - (k+1)) r P.length=(o,d)->K .normal (dsG3.zip (VG3 P y S a r P.length d o)) ⟨15,nsF3.zip (BF3 l t P Y y S a M es)⟩
theorem gm3_ev (l:List Stk) (t:Tst) (D0 D1 D2:List Int) (Y k:Nat) (M:Mde) (es:Lst) (y:Int) (S r:Nat) (a:Nat->Int) (X:VEx->List VV->List VB->Prop):codeE Try.prog (callN Try.prog (tabS [folR3 l t [D0,D1,D2] Y k]) noL 10 20) (tabB [(2,lG3 l t [D0,D1,D2] Y k y S a r)]) true 10 (ntOf Try.prog 44) 0 (loopB 0 (bodyOf Try.prog 44)) (dsF3.zip (VF3 y S a r)) ⟨15,nsF3.zip (BF3 l t [D0,D1,D2] Y y S a M es)⟩ (obs 15 dsF3 nsF3 X) =
 (let z1:=(fun (k:Nat)=>(ch a).getD k (0:Int));
 let z2:=[I (↑r:Int),VV.bool false,VV.ptr (.own 14 0),VV.agg [I y,I (↑S:Int),I (a 0),I (a 1),I (a 2),I (a 3),I (a 4),I (a 5)],VV.ptr (.own 4 0),VV.ptr (.own 11 0),VV.ptr (.own 1 0),VV.ptr (.own 13 0)];
 let z3:=[VV.func 44 [] [VV.ptr (.own 4 0),VV.ptr (.own 11 0),VV.ptr (.own 1 0),VV.ptr (.own 13 0)]];
 let z4:=[VV.func 40 [] [VV.ptr (.own 3 0),VV.ptr (.own 12 0),VV.ptr (.own 1 0),VV.ptr (.own 6 0)]];
 (bif decide ((↑r:Int) > (0:Int)) then
 ∃ (M_1:Mde),∃ (es_1:Lst),FitP 0 (VH.mk 15 (nsF3.zip (BF3 l t [D0,D1,D2] Y y (↑S:Int) a M es))) ((25,I 0)::(24,I (↑[D0,D1,D2].length:Int))::(23,VV.tl [D0,D1,D2].length 1 (pthG [D0,D1,D2]))::(9,I (-1))::(8,I 0)::(22,VV.bool true)::(22,VV.bool (decide ((↑r:Int) > (0:Int))))::(21,I (↑r:Int))::dsF3.zip (VF3 y (↑S:Int) a (↑r:Int))) (VH.mk 15 (nsF3.zip (BF3 l t [D0,D1,D2] Y y (↑S:Int) a M_1 es_1))) (dsG3.zip (VG3 [D0,D1,D2] y (↑S:Int) a (↑r:Int) (0:Int) (-1:Int) (0:Int)))/\(y=(↑(Y - (k+1)):Int)/\k+1<=Y/\Cfg l t [D0,D1,D2] Y/\r<16)/\∀ (o:Nat) (d:Int),grpF [D0,D1,D2] (Y - (k+1)) r [D0,D1,D2].length=(o,d)->∃ (S':Nat),∃ (O:Nat),∃ (a_2:Nat->Int),∃ (M:Mde),∃ (es:Lst),(VV.ptr (.own 3 0)=VV.ptr (.own 3 0)/\VV.ptr (.own 12 0)=VV.ptr (.own 12 0)/\VV.ptr (.own 1 0)=VV.ptr (.own 1 0)/\VV.ptr (.own 6 0)=VV.ptr (.own 6 0))/\(0=0/\14<=15)/\atL nsB3 (BP3 l t [D0,D1,D2] Y M es) (VH.mk 15 (nsF3.zip (BF3 l t [D0,D1,D2] Y y (↑S:Int) a M_1 es_1)))/\(y=(↑Y:Int) - (↑(k+1):Int)/\(↑S:Int)=(↑S':Int)/\(↑o:Int)=(↑O:Int)/\[I (z1 (0+0)),I (z1 (0+1)),I (z1 (0+2)),I (z1 (0+3)),I (z1 (0+4)),I (z1 (0+5))]=nL a_2)/\PreW l t [D0,D1,D2] Y k O a_2 es/\∀ (b:Bool) (s:St),PostW l t [D0,D1,D2] Y k O d a_2 M b s->bif !b then
 KeyLaw Try.prog 82 kS/\X .ret z2 [VB.cells [VV.tl t.T.length 1 (dG t.T),I t.far,I t.least] 25,VB.cells [VV.tl [D0,D1,D2].length 1 (pthG [D0,D1,D2])] 26,VB.cells (stD l::tsL t) 74,VB.cells [VV.ptr (.own 2 0)] 72,VB.cells [I (↑Y:Int)] 3,VB.cells [sFa 7 Y,sFa 8 Y,sFa 9 Y] 76,VB.cells [VV.slice (.own 5 0) 3 3] 75,VB.fam [] (Y*6) (s.M 0) 80,VB.fam [] (Y*6) (s.M 1) 80,VB.fam [] (Y*6) (s.M 2) 80,VB.map kS PK.bool (setE s.es [y,(↑S:Int),z1 (0+0),z1 (0+1),z1 (0+2),z1 (0+3),z1 (0+4),z1 (0+5)] (bif true then
 (1:Int)
 else (0:Int))),VB.cells [VV.mp 10] 77,VB.cells z3 78,VB.cells z4 88,VB.fam [I y,I (↑S:Int)] 6 z1 82]
 else X .normal [I (IntKind.i64.wrap (↑(BitVec.ofInt IntKind.i64.bits (↑r:Int) &&& ~~~BitVec.ofInt IntKind.i64.bits (↑o:Int)).toNat:Int)),VV.bool false,VV.ptr (.own 14 0),VV.agg [I y,I (↑S:Int),I (a 0),I (a 1),I (a 2),I (a 3),I (a 4),I (a 5)],VV.ptr (.own 4 0),VV.ptr (.own 11 0),VV.ptr (.own 1 0),VV.ptr (.own 13 0)] [VB.cells [VV.tl t.T.length 1 (dG t.T),I t.far,I t.least] 25,VB.cells [VV.tl [D0,D1,D2].length 1 (pthG [D0,D1,D2])] 26,VB.cells (stD l::tsL t) 74,VB.cells [VV.ptr (.own 2 0)] 72,VB.cells [I (↑Y:Int)] 3,VB.cells [sFa 7 Y,sFa 8 Y,sFa 9 Y] 76,VB.cells [VV.slice (.own 5 0) 3 3] 75,VB.fam [] (Y*6) (s.M 0) 80,VB.fam [] (Y*6) (s.M 1) 80,VB.fam [] (Y*6) (s.M 2) 80,VB.map kS PK.bool s.es,VB.cells [VV.mp 10] 77,VB.cells z3 78,VB.cells z4 88,VB.fam [I y,I (↑S:Int)] 6 z1 82]
 else X (.exit 0) z2 [VB.cells [VV.tl t.T.length 1 (dG t.T),I t.far,I t.least] 25,VB.cells [VV.tl [D0,D1,D2].length 1 (pthG [D0,D1,D2])] 26,VB.cells (stD l::tsL t) 74,VB.cells [VV.ptr (.own 2 0)] 72,VB.cells [I (↑Y:Int)] 3,VB.cells [sFa 7 Y,sFa 8 Y,sFa 9 Y] 76,VB.cells [VV.slice (.own 5 0) 3 3] 75,VB.fam [] (Y*6) (M 0) 80,VB.fam [] (Y*6) (M 1) 80,VB.fam [] (Y*6) (M 2) 80,VB.map kS PK.bool es,VB.cells [VV.mp 10] 77,VB.cells z3 78,VB.cells z4 88,VB.fam [I y,I (↑S:Int)] 6 z1 82])):=by kernel_rfl
def lFi3 (l:List Stk) (t:Tst) (P:List (List Int)) (Y k:Nat) (y:Int) (S:Nat) (a:Nat->Int):LT:=fun lock tt h K=>
 ∃ M es,FitP lock h tt ⟨15,nsF3.zip (BF3 l t P Y y S a M es)⟩ (dsF3.zip (VF3 y S a S))/\(y=(Y:Int) - (k+1:Nat)/\Cfg l t P Y/\PreF l t P Y (k+1) S a es)/\(∀ s,PostF l t P Y (k+1) S a M true s->K .normal (dsF3.zip (VF3 y S a 0)) ⟨15,nsF3.zip (BF3 l t P Y y S a s.M s.es)⟩) /\
  ∀ s (r:Int),PostF l t P Y (k+1) S a M false s->K .ret (dsF3.zip (VF3 y S a r)) ⟨15,nsF3.zip (BF3 l t P Y y S a s.M s.es)⟩
theorem fib3_ev (l:List Stk) (t:Tst) (D0 D1 D2:List Int) (Y k:Nat) (M:Mde) (es:Lst) (y:Int) (S:Nat) (a:Nat->Int) (Q:VRes->VH->Prop):callN Try.prog noSpec (atF 44 [(0,lFi3 l t [D0,D1,D2] Y k y S a)]) 10 20 0 (.fn 44) [.agg (I y::I S::nL a),.ptr (.own 4 0),.ptr (.own 11 0),.ptr (.own 1 0),.ptr (.own 13 0)] ⟨14,nsB3.zip (BP3 l t [D0,D1,D2] Y M es)⟩ (fun r h=>Q r h) =
 (let z2:=(12,VB.cells [VV.func 44 [] [VV.ptr (.own 4 0),VV.ptr (.own 11 0),VV.ptr (.own 1 0),VV.ptr (.own 13 0)]] 78);
 let z3:=(13,VB.cells [VV.func 40 [] [VV.ptr (.own 3 0),VV.ptr (.own 12 0),VV.ptr (.own 1 0),VV.ptr (.own 6 0)]] 88);
 let z1:=(VH.mk (15) [(14,VB.fam [I y,I (↑S:Int)] (6) (f6 a) 82),(0,VB.cells [VV.tl t.T.length 1 (dG t.T),I t.far,I t.least] 25),(1,VB.cells [VV.tl [D0,D1,D2].length 1 (pthG [D0,D1,D2])] 26),(2,VB.cells (stD l::tsL t) 74),(3,VB.cells [VV.ptr (.own 2 0)] 72),(4,VB.cells [I (↑Y:Int)] 3),(5,VB.cells [sFa 7 Y,sFa 8 Y,sFa 9 Y] 76),(6,VB.cells [VV.slice (.own 5 0) 3 3] 75),(7,VB.fam [] (Y*6) (M 0) 80),(8,VB.fam [] (Y*6) (M 1) 80),(9,VB.fam [] (Y*6) (M 2) 80),(10,VB.map kS PK.bool es),(11,VB.cells [VV.mp 10] 77),z2,z3]);
 (bif decide (y=(↑Y:Int)) then
 Q (.ret (.bool true)) z1
 else KeyLaw Try.prog 82 kS/\bif decide (valOf es [y,(↑S:Int),(f6 a) (0+0),(f6 a) (0+1),(f6 a) (0+2),(f6 a) (0+3),(f6 a) (0+4),(f6 a) (0+5)]=(1:Int)) then
 Q (.ret (.bool false)) z1
 else ∃ (M_1:Mde),∃ (es_1:Lst),FitP 0 (VH.mk (15) ((14,VB.fam [I y,I (↑S:Int)] (6) (f6 a) 82)::nsB3.zip (BP3 l t [D0,D1,D2] Y M es))) [(7,I (↑S:Int)),(20,I (↑S:Int)),(19,VV.ptr (.own (14) (1))),(18,VV.bool false),(18,VV.bool (decide (valOf es [y,(↑S:Int),(f6 a) (0+0),(f6 a) (0+1),(f6 a) (0+2),(f6 a) (0+3),(f6 a) (0+4),(f6 a) (0+5)]=(1:Int)))),(17,VV.agg [I y,I (↑S:Int),I ((f6 a) (0+0)),I ((f6 a) (0+1)),I ((f6 a) (0+2)),I ((f6 a) (0+3)),I ((f6 a) (0+4)),I ((f6 a) (0+5))]),(16,VV.mp 10),(15,VV.bool false),(15,VV.bool (decide (y=(↑Y:Int)))),(14,I (↑Y:Int)),(13,I y),(12,VV.ptr (.own (14) 0)),(6,VV.bool false),(5,VV.ptr (.own (14) 0)),(0,VV.agg (I y::I (↑S:Int)::nL a)),(1,VV.ptr (.own 4 0)),(2,VV.ptr (.own 11 0)),(3,VV.ptr (.own 1 0)),(4,VV.ptr (.own 13 0))] (VH.mk 15 (nsF3.zip (BF3 l t [D0,D1,D2] Y y (↑S:Int) a M_1 es_1))) (dsF3.zip (VF3 y (↑S:Int) a (↑S:Int)))/\(y=(↑Y:Int) - (↑(k+1):Int)/\Cfg l t [D0,D1,D2] Y/\PreF l t [D0,D1,D2] Y (k+1) S a es_1)/\(∀ (s:St),PostF l t [D0,D1,D2] Y (k+1) S a M_1 true s->Q (.ret (.bool true)) (VH.mk 15 [(0,VB.cells [VV.tl t.T.length 1 (dG t.T),I t.far,I t.least] 25),(1,VB.cells [VV.tl [D0,D1,D2].length 1 (pthG [D0,D1,D2])] 26),(2,VB.cells (stD l::tsL t) 74),(3,VB.cells [VV.ptr (.own 2 0)] 72),(4,VB.cells [I (↑Y:Int)] 3),(5,VB.cells [sFa 7 Y,sFa 8 Y,sFa 9 Y] 76),(6,VB.cells [VV.slice (.own 5 0) 3 3] 75),(7,VB.fam [] (Y*6) (s.M 0) 80),(8,VB.fam [] (Y*6) (s.M 1) 80),(9,VB.fam [] (Y*6) (s.M 2) 80),(10,VB.map kS PK.bool s.es),(11,VB.cells [VV.mp 10] 77),z2,z3,(14,VB.fam [I y,I (↑S:Int)] 6 (fun (k:Nat)=>(ch a).getD k (0:Int)) 82)]))/\∀ (s:St) (r:Int),PostF l t [D0,D1,D2] Y (k+1) S a M_1 false s->Q (.ret (.bool false)) (VH.mk 15 [(0,VB.cells [VV.tl t.T.length 1 (dG t.T),I t.far,I t.least] 25),(1,VB.cells [VV.tl [D0,D1,D2].length 1 (pthG [D0,D1,D2])] 26),(2,VB.cells (stD l::tsL t) 74),(3,VB.cells [VV.ptr (.own 2 0)] 72),(4,VB.cells [I (↑Y:Int)] 3),(5,VB.cells [sFa 7 Y,sFa 8 Y,sFa 9 Y] 76),(6,VB.cells [VV.slice (.own 5 0) 3 3] 75),(7,VB.fam [] (Y*6) (s.M 0) 80),(8,VB.fam [] (Y*6) (s.M 1) 80),(9,VB.fam [] (Y*6) (s.M 2) 80),(10,VB.map kS PK.bool s.es),(11,VB.cells [VV.mp 10] 77),z2,z3,(14,VB.fam [I y,I (↑S:Int)] 6 (fun (k:Nat)=>(ch a).getD k (0:Int)) 82)]))):=by kernel_rfl
theorem fiz3_ev (l:List Stk) (t:Tst) (D0 D1 D2:List Int) (Y:Nat) (M:Mde) (es:Lst) (y:Int) (S:Nat) (a:Nat->Int) (Q:VRes->VH->Prop):callN Try.prog noSpec (atF 44 [(0,lZ)]) 10 20 0 (.fn 44) [.agg (I y::I S::nL a),.ptr (.own 4 0),.ptr (.own 11 0),.ptr (.own 1 0),.ptr (.own 13 0)] ⟨14,nsB3.zip (BP3 l t [D0,D1,D2] Y M es)⟩ (fun r h=>Q r h) =
 (bif decide (y=(↑Y:Int)) then
 Q (.ret (.bool true)) (VH.mk (15) [(14,VB.fam [I y,I (↑S:Int)] (6) (f6 a) 82),(0,VB.cells [VV.tl t.T.length 1 (dG t.T),I t.far,I t.least] 25),(1,VB.cells [VV.tl [D0,D1,D2].length 1 (pthG [D0,D1,D2])] 26),(2,VB.cells (stD l::tsL t) 74),(3,VB.cells [VV.ptr (.own 2 0)] 72),(4,VB.cells [I (↑Y:Int)] 3),(5,VB.cells [sFa 7 Y,sFa 8 Y,sFa 9 Y] 76),(6,VB.cells [VV.slice (.own 5 0) 3 3] 75),(7,VB.fam [] (Y*6) (M 0) 80),(8,VB.fam [] (Y*6) (M 1) 80),(9,VB.fam [] (Y*6) (M 2) 80),(10,VB.map kS PK.bool es),(11,VB.cells [VV.mp 10] 77),(12,VB.cells [VV.func 44 [] [VV.ptr (.own 4 0),VV.ptr (.own 11 0),VV.ptr (.own 1 0),VV.ptr (.own 13 0)]] 78),(13,VB.cells [VV.func 40 [] [VV.ptr (.own 3 0),VV.ptr (.own 12 0),VV.ptr (.own 1 0),VV.ptr (.own 6 0)]] 88)])
 else KeyLaw Try.prog 82 kS/\bif decide (valOf es [y,(↑S:Int),(f6 a) (0+0),(f6 a) (0+1),(f6 a) (0+2),(f6 a) (0+3),(f6 a) (0+4),(f6 a) (0+5)]=(1:Int)) then
 Q (.ret (.bool false)) (VH.mk (15) [(14,VB.fam [I y,I (↑S:Int)] (6) (f6 a) 82),(0,VB.cells [VV.tl t.T.length 1 (dG t.T),I t.far,I t.least] 25),(1,VB.cells [VV.tl [D0,D1,D2].length 1 (pthG [D0,D1,D2])] 26),(2,VB.cells (stD l::tsL t) 74),(3,VB.cells [VV.ptr (.own 2 0)] 72),(4,VB.cells [I (↑Y:Int)] 3),(5,VB.cells [sFa 7 Y,sFa 8 Y,sFa 9 Y] 76),(6,VB.cells [VV.slice (.own 5 0) 3 3] 75),(7,VB.fam [] (Y*6) (M 0) 80),(8,VB.fam [] (Y*6) (M 1) 80),(9,VB.fam [] (Y*6) (M 2) 80),(10,VB.map kS PK.bool es),(11,VB.cells [VV.mp 10] 77),(12,VB.cells [VV.func 44 [] [VV.ptr (.own 4 0),VV.ptr (.own 11 0),VV.ptr (.own 1 0),VV.ptr (.own 13 0)]] 78),(13,VB.cells [VV.func 40 [] [VV.ptr (.own 3 0),VV.ptr (.own 12 0),VV.ptr (.own 1 0),VV.ptr (.own 6 0)]] 88)])
 else False):=by kernel_rfl
section
variable {l:List Stk} {t:Tst} {P:List (List Int)} {Y k:Nat} {y S d:Int} {own:Int} {a:Nat->Int}
noncomputable def OJ3 (l:List Stk) (t:Tst) (P:List (List Int)) (Y:Nat) (y S own d:Int) (a:Nat->Int) (s:(Mde × Lst) × Nat × (Nat->Int)) (e:VEx) (vs:List VV) (bs:List VB):Prop:=
 e=.exit 2/\vs=VFi3 ((scanC a s.2.1 s.2.2).1 - 1)/\bs=BFo3 l t P Y y S own d a s.1.1 s.1.2 (scanC a s.2.1 s.2.2).2
theorem lIo3_ok:LSound Try.prog true (.block 2 (.loop (loopB 2 (bodyOf Try.prog 74)))) (ntOf Try.prog 74) (lIo3 l t P Y y S own d a):=by
 by_cases hn:l.length<=6
 ·refine loop_row hmix good0 (un:=10) (ds:=dsI) (ns:=nsFo3) (nx:=23) (fun s:(Mde × Lst) × Nat × (Nat->Int)=>VFi3 (s.2.1 - 1)) (fun s=>BFo3 l t P Y y S own d a s.1.1 s.1.2 s.2.2) (fun s=>s.2.1<=l.length) (fun s=>s.2.1) (OJ3 l t P Y y S own d a) noL_ok ?_ ?_
  ·rintro ⟨⟨M,es⟩,k,n⟩ h0
   dsimp only at h0 ⊢
   refine cast (ino3_ev l t P Y y S own d (k - 1) a M es n _).symm ?_
   cases k with
   | zero=>exact cond_d (fun h=>by omega) (fun _=>⟨rfl,rfl,rfl⟩)
   | succ k=>
    have e:(((k+1:Nat):Int) - 1)=(k:Int):=by omega
    rw [e]
    have e2:(k:Int).toNat*1=k:=by omega
    rw [e2,show (fun k=>(ch a).getD k (0:Int)) k=a k from ch_get (by omega)]
    refine cond_d (fun _=>?_) (fun h=>by omega)
    refine cond_dk ⟨by omega,by omega⟩ (cond_dk (by omega) (cond_dk ⟨by omega,by omega⟩ (cond_dk (by omega) (cond_d (fun g=>cond_dk ⟨by omega,by omega⟩ (cond_dk (by omega) (cond_r (by omega) ?_))) (fun g=>?_)))))
    ·refine ⟨((M,es),k,setC n k 0),?_,?_,rfl,fitBs_refl _,fun e vs bs he=>?_⟩
     ·show k<=_; omega
     ·show k<k+1; omega
     ·have hs:scanC a (k+1) n=scanC a k (setC n k 0):=by
       show (if _ then _ else _)=_
       rw [if_pos g]
      obtain ⟨h1,h2,h3⟩:=he
      refine ⟨h1,?_,?_⟩
      ·rw [h2]; dsimp only; rw [hs]
      ·rw [h3]; dsimp only; rw [hs]
    ·have hs:scanC a (k+1) n=(k+1,n):=by
      show (if _ then _ else _)=_
      rw [if_neg g]
     refine ⟨rfl,?_,?_⟩
     ·dsimp only; rw [hs]; dsimp only; rw [e]; rfl
     ·dsimp only; rw [hs]
  ·rintro lock tt h K ⟨M,es,n,hf,_,k1⟩
   refine ⟨((M,es),l.length,n),hf,Nat.le_refl _,?_⟩
   rintro e vs bs ⟨rfl,rfl,rfl⟩
   exact k1 _ _ rfl
 ·rintro lock tt h K ⟨M,es,n,hf,hc,_⟩
  exact (hn hc).elim
theorem lG3_ok {r:Nat}:LSound Try.prog true (.block 2 (.loop (loopB 2 (bodyOf Try.prog 44)))) (ntOf Try.prog 44) (lG3 l t P Y k y S a r):=by
 by_cases hh:y=((Y - (k+1):Nat):Int)/\k+1<=Y/\Cfg l t P Y/\r<16
 ·obtain ⟨hy,hk,cf,hr⟩:=hh
  have hp4:=cf.P4
  refine loop_row hmix good0 (un:=10) (ds:=dsG3) (ns:=nsF3) (nx:=15) (fun s:(Mde × Lst) × Nat=>VG3 P y S a r s.2 (grpF P (Y - (k+1)) r s.2).2 (grpF P (Y - (k+1)) r s.2).1) (fun s=>BF3 l t P Y y S a s.1.1 s.1.2) (fun s=>s.2<=P.length) (fun s=>P.length - s.2)
   (fun s e vs bs=>e=.exit 2/\vs=VG3 P y S a r P.length (grpF P (Y - (k+1)) r P.length).2 (grpF P (Y - (k+1)) r P.length).1/\bs=BF3 l t P Y y S a s.1.1 s.1.2) noL_ok ?_ ?_
  ·rintro ⟨⟨M,es⟩,i⟩ h0
   dsimp only at h0 ⊢
   refine cast (gi3_ev l t P Y M es y S i _ _ r a _).symm ?_
   have hgb:=grpF_le cf.nd (Y - (k+1)) r i
   have hs:grpF P (Y - (k+1)) r (i+1)=if r.testBit i/\((grpF P (Y - (k+1)) r i).2<0 ∨ (P.getD i []).getD (Y - (k+1)) 0=(grpF P (Y - (k+1)) r i).2) then ((grpF P (Y - (k+1)) r i).1 ||| 2 ^ i,(P.getD i []).getD (Y - (k+1)) 0) else grpF P (Y - (k+1)) r i:=rfl
   have h16:(grpF P (Y - (k+1)) r i).1<16:=Nat.lt_of_lt_of_le hgb (Nat.pow_le_pow_right (n:=2) (by omega) (show i<=4 by omega))
   generalize hRQ:RoundQ (σ:=(Mde × Lst) × Nat) _ _ _ _ _ ((M,es),i)=RQ
   have fin:∀ (o':Nat) (d':Int),grpF P (Y - (k+1)) r (i+1)=(o',d')->i<P.length->RQ .normal (VG3 P y S a r ((i:Int)+1) d' o') (BF3 l t P Y y S a M es):=by
    intro o' d' he hlt
    rw [<- hRQ]
    refine ⟨((M,es),i+1),?_,?_,?_,fitBs_refl _,fun _ _ _ h=>h⟩
    ·show i+1<=_; omega
    ·show P.length - (i+1)<P.length - i; omega
    ·dsimp only; rw [he]; rfl
   generalize hg:grpF P (Y - (k+1)) r i=g at hs h16 ⊢
   obtain ⟨o,dd⟩:=g
   dsimp only at hs h16 ⊢
   by_cases hlt:i<P.length
   ·have hidx:(0:Int)<=y/\y<((P.getD i []).length:Nat):=by rw [cf.len i hlt]; omega
    have hi4:i<4:=by omega
    have hpow:(1:Int)*(2:Int) ^ min i IntKind.i64.bits<=8/\0<=(1:Int)*(2:Int) ^ min i IntKind.i64.bits:=by
     match i,hi4 with
     | 0,_=>exact ⟨by decide,by decide⟩
     | 1,_=>exact ⟨by decide,by decide⟩
     | 2,_=>exact ⟨by decide,by decide⟩
     | 3,_=>exact ⟨by decide,by decide⟩
    have ey:y.toNat=Y - (k+1):=by omega
    refine cond_dk (by omega) (cond_dk ⟨by omega,by omega⟩ (cond_d (fun h=>by omega) (fun _=>?_)))
    rw [show (i:Int).toNat=i by omega,ey,or_v o h16 i hi4]
    refine cond_d (fun b=>?_) (fun b=>?_)
    ·have b:=(bit_v r hr i hi4).1 b
     refine cond_d (fun g1=>cond_d (fun h=>by omega) (fun _=>cond_r (by omega) (cond_dk hidx (cond_r (by omega) (fin _ _ ?_ hlt))))) (fun g1=>cond_dk hidx (cond_d (fun g2=>cond_d (fun h=>by omega) (fun _=>cond_r (by omega) (cond_dk hidx (cond_r (by omega) (fin _ _ ?_ hlt))))) (fun g2=>cond_r (by omega) (fin _ _ ?_ hlt))))
     ·rw [hs,if_pos ⟨b,.inl g1⟩]
     ·rw [hs,if_pos ⟨b,.inr g2⟩]
     ·rw [hs,if_neg (fun h=>h.2.elim g1 g2)]
    ·have b:¬ r.testBit i=true:=fun h=>b ((bit_v r hr i hi4).2 h)
     refine cond_r (by omega) (fin _ _ ?_ hlt)
     rw [hs,if_neg (fun h=>b h.1)]
   ·obtain rfl:i=P.length:=by omega
    refine cond_d (fun h=>by omega) (fun _=>?_)
    rw [<- hRQ]
    refine ⟨rfl,?_,rfl⟩
    rw [hg]; rfl
  ·rintro lock tt h K ⟨M,es,hf,_,k1⟩
   refine ⟨((M,es),0),hf,Nat.zero_le _,?_⟩
   rintro e vs bs ⟨rfl,rfl,rfl⟩
   exact k1 _ _ rfl
 ·rintro lock tt h K ⟨M,es,hf,hc,_⟩
  exact (hh hc).elim
end
section
variable {l:List Stk} {t:Tst} {D0 D1 D2:List Int} {Y k:Nat}
theorem hc63 {h:VH} (h6:(h.at 2).cs? = some (stD l::tsL t,74)):isD h 4 (.ptr (.own 2 0)) (.tp (stD l::tsL t)):=⟨_,_,h6,isD_l,⟨rfl,rfl,fun _ _=>rfl⟩,⟨rfl,rfl⟩,⟨rfl,rfl⟩,trivial⟩
structure WS3 where
 M0:Mde
 j:Nat
 M:Mde
 es:Lst
noncomputable def OW3 (l:List Stk) (t:Tst) (P:List (List Int)) (Y k:Nat) (y S d:Int) (O:Nat) (a:Nat->Int) (s:WS3) (e:VEx) (vs:List VV) (bs:List VB):Prop:=
 e=.ret/\vs=VFo3/\∃ st n',(PostW l t P Y k O d a s.M0 false st/\bs=BFo3 l t P Y y S O d a st.M st.es n') ∨ (PostW l t P Y k O d a s.M0 true st/\bs=BFoT3 l t P Y y S O d a st.M st.es n')
theorem lFo3_ok (hfind:SpOk Try.prog (findR3 l t [D0,D1,D2] Y k).1 (findR3 l t [D0,D1,D2] Y k).2) {y S d:Int} {O:Nat} {a:Nat->Int}:LSound Try.prog true (.block 0 (.loop (loopB 0 (bodyOf Try.prog 74)))) (ntOf Try.prog 74) (lFo3 l t [D0,D1,D2] Y k y S d O a):=by
 by_cases hh:y=(Y:Int) - (k+1:Nat)/\Cfg l t [D0,D1,D2] Y/\k+1<=Y/\O<2 ^ [D0,D1,D2].length/\leftB l a
 ·obtain ⟨hy,cf,hk,hO,ha⟩:=hh
  have hl6:=cf.hl.1
  have hY4:=cf.Y4
  have hm0:∀ i,i<l.length->0<=a i:=fun i hi=>(ha.1 i hi).1
  have hO16:O<16:=Nat.lt_of_lt_of_le hO (Nat.pow_le_pow_right (n:=2) (by omega) (show 3<=4 by omega))
  have htab:∀ f T,tabS [meetsR l t,lessT,findR3 l t [D0,D1,D2] Y k] f=some T->SpOk Try.prog f T:=tab_ok _ (fun x hx=>by
   simp only [List.mem_cons,List.not_mem_nil,or_false] at hx
   rcases hx with rfl | rfl | rfl
   ·exact meetsR_ok l t
   ·exact lessT_ok
   ·exact hfind)
  refine loop_row hmix (noL_good htab) (lsp:=tabB [(2,lIo3 l t [D0,D1,D2] Y y S O d a)]) (un:=10) (ds:=dsC) (ns:=nsFo3) (nx:=22) (fun _:WS3=>VFo3) (fun s=>BFo3 l t [D0,D1,D2] Y y S O d a s.M s.es (chAt a l.length s.j))
   (fun s=>s.j<(allC a l.length).length/\LostOk l t [D0,D1,D2] Y s.es/\Same Y (k+1) O s.M0 s.M/\∀ i,i<s.j->meetsF l t (chAt a l.length i) y d=true->planF l t [D0,D1,D2] Y k O (lsF a (chAt a l.length i) 6)=none) (fun s=>(allC a l.length).length - s.j) (OW3 l t [D0,D1,D2] Y k y S d O a) (lsp_one (by kernel_rfl) lIo3_ok) ?_ ?_
  ·rintro ⟨M0,j,M,es⟩ ⟨hj,hlost,hsame,hbad⟩
   dsimp only at hj hlost hsame hbad
   refine cast (fr3_ev l t D0 D1 D2 Y k M es y S d O a _ _).symm ?_
   have hcm:=chAt_mem (most:=a) (k:=l.length) hj
   obtain ⟨hleft,hbd,hnc⟩:=left_less ha hcm hl6
   have hnx:=scan_nxt (most:=a) l.length (chAt a l.length j)
   have hnext:=chAt_next hm0 hj
   have hsucc:∀ x,meetsF l t (chAt a l.length j) y d=true->planF l t [D0,D1,D2] Y k O (lsF a (chAt a l.length j) 6)=some x->folF l t [D0,D1,D2] Y k a O d=some (chAt a l.length j,x):=fun x g1 g2=>by
    refine tryF_some (c0:=fun _=>0) hj (fun i hi hm=>hbad i hi ?_) ?_ g2
    ·rw [hy]; exact hm
    ·show meetsF l t (chAt a l.length j) _ d=true
     rw [<- hy]; exact g1
   generalize hRQ:RoundQ (σ:=WS3) _ _ _ _ _ ⟨M0,j,M,es⟩=RQ
   generalize hcj:chAt a l.length j=c at hcm hleft hbd hnc hnx hnext hsucc ⊢
   have fin:∀ (M':Mde) (es':Lst),LostOk l t [D0,D1,D2] Y es'->Same Y (k+1) O M0 M'->(meetsF l t c y d=true->planF l t [D0,D1,D2] Y k O (lsF a c 6)=none)->∀ (k2:Nat) (n':Nat->Int),scanC a l.length c=(k2,n') ->
    (bif decide ((k2:Int) - 1<0) then RQ .ret VFo3 (BFo3 l t [D0,D1,D2] Y y S O d a M' es' n')
    else bif decide (0<=(k2:Int) - 1/\(k2:Int) - 1<(6:Nat)) then (bif decide (((k2:Int) - 1).toNat*1<6) then (bif inK .i64 (n' (((k2:Int) - 1).toNat*1)+1) then (bif decide (0<=(k2:Int) - 1/\(k2:Int) - 1<(6:Nat)) then (bif decide (((k2:Int) - 1).toNat*1+1<=6) then
     RQ .normal VFo3 (BFo3 l t [D0,D1,D2] Y y S O d a M' es' (setF n' (((k2:Int) - 1).toNat*1) [n' (((k2:Int) - 1).toNat*1)+1])) else False) else False) else False) else False) else False):=by
    intro M' es' hl' hs' hno k2 n' hk2
    have hbad':∀ i,i<j+1->meetsF l t (chAt a l.length i) y d=true->planF l t [D0,D1,D2] Y k O (lsF a (chAt a l.length i) 6)=none:=fun i hi hm=>by
     by_cases e:i=j
     ·subst e; rw [hcj] at hm ⊢; exact hno hm
     ·exact hbad i (by omega) hm
    rw [hk2] at hnx
    obtain ⟨hk1,hnx⟩:=hnx
    dsimp only at hk1
    cases k2 with
    | zero=>
     dsimp only at hnx
     have hj1:j+1=(allC a l.length).length:=by
      rcases hnext with ⟨h1,_⟩ | ⟨_,h2⟩
      ·exact h1
      ·rw [hnx] at h2; cases h2
     refine cond_d (fun _=>?_) (fun h=>by omega)
     rw [<- hRQ]
     refine ⟨rfl,rfl,⟨M',es'⟩,n',.inl ⟨?_,rfl⟩⟩
     have hf:folF l t [D0,D1,D2] Y k a O d=none:=tryF_none (fun c' hc' hm'=>by
      obtain ⟨i,hi,rfl⟩:=List.getElem_of_mem hc'
      have e:chAt a l.length i=(allC a l.length)[i]:=by
       unfold chAt
       rw [List.getD_eq_getElem?_getD,List.getElem?_eq_getElem hi]; rfl
      rw [<- e]
      refine hbad' i (by omega) ?_
      rw [e,hy]; exact hm')
     exact ⟨by rw [hf]; rfl,hl',hs',fun c' x' he=>by rw [hf] at he; cases he⟩
    | succ k2=>
     dsimp only at hnx
     have e:(((k2+1:Nat):Int) - 1)=(k2:Int):=by omega
     rw [e]
     have e2:(k2:Int).toNat*1=k2:=by omega
     rw [e2]
     obtain ⟨hj1,hch⟩:j+1<(allC a l.length).length/\chAt a l.length (j+1)=setC n' k2 (n' k2+1):=by
      rcases hnext with ⟨_,h2⟩ | ⟨h1,h2⟩
      ·rw [hnx] at h2; cases h2
      ·rw [hnx] at h2
       injection h2 with h2
       exact ⟨h1,h2.symm⟩
     have hb6:=(left_less ha (chAt_mem hj1) hl6).2.2 k2 (by omega)
     rw [hch,setC_same] at hb6
     refine cond_d (fun h=>by omega) (fun _=>cond_dk ⟨by omega,by omega⟩ (cond_dk (by omega) (cond_r (by omega) (cond_dk ⟨by omega,by omega⟩ (cond_dk (by omega) ?_)))))
     rw [<- hRQ]
     refine ⟨⟨M0,j+1,M',es'⟩,⟨hj1,hl',hs',hbad'⟩,?_,rfl,?_,fun _ _ _ h=>h⟩
     ·show (allC a l.length).length - (j+1)<(allC a l.length).length - j
      omega
     ·dsimp only
      rw [hch]
      exact fitBs_refl _
   have hir : -9223372036854775808<=(l.length:Int) - 1/\(l.length:Int) - 1<=9223372036854775807:=by omega
   have hF:∀ (M':Mde) (es':Lst) (h:VH) (tt:Slots),h.nx=23->fitB (nsFo3.zip (BFo3 l t [D0,D1,D2] Y y S O d a M' es' c)) h->fitS (dsI.zip (VFi3 (l.length - 1))) tt->FitP 0 h tt ⟨23,nsFo3.zip (BFo3 l t [D0,D1,D2] Y y S O d a M' es' c)⟩ (dsI.zip (VFi3 (l.length - 1))):=fun _ _ _ _ h1 h2 h3=>⟨⟨rfl,h1,h2⟩,h3⟩
   refine ⟨c,hc63 rfl,rfl,⟨⟨hnc,cf.hl,cf.hp,cf.ht⟩,by omega,by omega⟩,cond_i (fun g=>?_) (fun g=>?_)⟩
   ·have g:meetsF l t c y d=false:=by simpa using g
    refine cond_r hir ⟨M,es,c,hF M es _ _ rfl ?_ ?_,hl6,fin M es hlost hsame (fun h=>by rw [g] at h; cases h)⟩
    ·exact (by repeat (first | exact trivial | refine ⟨VB.fit_refl _,?_⟩))
    ·exact ⟨rfl,rfl,rfl,rfl,rfl,trivial⟩
   ·have g:meetsF l t c y d=true:=by simpa using g
    refine cond_r (by omega) ⟨a,c,rfl,rfl,hbd,O,lsF a c 6,M,es,⟨rfl,rfl,rfl,rfl⟩,⟨rfl,by omega⟩,⟨rfl,rfl,rfl,rfl,rfl,rfl,rfl,rfl,rfl,rfl,rfl,rfl,rfl,rfl,trivial⟩,⟨by omega,rfl,rfl⟩,⟨by omega,hO,hleft,hlost⟩,?_⟩
    rintro b s ⟨p1,p2,p3,p4⟩
    refine cond_i (fun g2=>?_) (fun g2=>?_)
    ·have g2:b=false:=by simpa using g2
     refine cond_r hir ⟨s.M,s.es,c,hF s.M s.es _ _ rfl ?_ ?_,hl6,fin s.M s.es p2 (hsame.trans p3.later) (fun _=>?_)⟩
     ·exact (by repeat (first | exact trivial | refine ⟨VB.fit_refl _,?_⟩))
     ·exact ⟨rfl,rfl,rfl,rfl,rfl,trivial⟩
     ·rw [g2] at p1
      cases hx:planF l t [D0,D1,D2] Y k O (lsF a c 6) with
      | none=>rfl
      | some x=>rw [hx] at p1; cases p1
    ·have g2:b=true:=by simpa using g2
     subst g2
     obtain ⟨x,hx⟩:∃ x,planF l t [D0,D1,D2] Y k O (lsF a c 6)=some x:=by
      cases hx:planF l t [D0,D1,D2] Y k O (lsF a c 6) with
      | none=>rw [hx] at p1; cases p1
      | some x=>exact ⟨x,rfl⟩
     have hyY:(0:Int)<=y/\y<(Y:Int):=⟨by omega,by omega⟩
     have hyY6:0+y.toNat*6+6<=Y*6:=by omega
     have fin2:∀ M2:Mde,(∀ i,i < [D0,D1,D2].length->M2 i=if O.testBit i=true then wrM (s.M i) y c else s.M i)->(∀ i,[D0,D1,D2].length<=i->M2 i=s.M i)->∀ bs,bs=BFoT3 l t [D0,D1,D2] Y y S O d a M2 s.es c->RQ .ret VFo3 bs:=by
      rintro M2 h2 h3 bs rfl
      rw [<- hRQ]
      exact ⟨rfl,rfl,⟨M2,s.es⟩,c,.inr ⟨postW_true hk hO (by omega) (hsucc x g hx) hx hsame ⟨p1,p2,p3,p4⟩ h2 h3,rfl⟩⟩
     have fin3:∀ {m0 m1 m2:Nat->Int},(m0=if O.testBit 0=true then wrM (s.M 0) y c else s.M 0)->(m1=if O.testBit 1=true then wrM (s.M 1) y c else s.M 1)->(m2=if O.testBit 2=true then wrM (s.M 2) y c else s.M 2)->RQ .ret VFo3 (BFoT3 l t [D0,D1,D2] Y y S O d a (fun i=>if i=0 then m0 else if i=1 then m1 else if i=2 then m2 else s.M i) s.es c):=fun h0 h1 h2=>fin2 _ (fun i hi=>by
      match i,hi with
      | 0,_=>exact h0
      | 1,_=>exact h1
      | 2,_=>exact h2
      | _+3,hi=>exact absurd hi (by show ¬ _+3<3; omega)) (fun i hi=>by
      have hi:3<=i:=hi
      rw [if_neg (show ¬ i=0 by omega),if_neg (show ¬ i=1 by omega),if_neg (show ¬ i=2 by omega)]) _ rfl
     refine cond_d (fun b0=>cond_dk hyY (cond_dk hyY6 ?_)) (fun b0=>?_)
     ·have b0:O.testBit 0=true:=(bit_v O hO16 0 (by omega)).1 b0
      refine cond_d (fun b1=>cond_dk hyY (cond_dk hyY6 ?_)) (fun b1=>?_)
      ·have b1:O.testBit 1=true:=(bit_v O hO16 1 (by omega)).1 b1
       refine cond_d (fun b2=>cond_dk hyY (cond_dk hyY6 ?_)) (fun b2=>?_)
       ·have b2:O.testBit 2=true:=(bit_v O hO16 2 (by omega)).1 b2
        exact fin3 (if_pos b0).symm (if_pos b1).symm (if_pos b2).symm
       ·have b2:¬ O.testBit 2=true:=fun h=>b2 ((bit_v O hO16 2 (by omega)).2 h)
        exact fin3 (if_pos b0).symm (if_pos b1).symm (if_neg b2).symm
      ·have b1:¬ O.testBit 1=true:=fun h=>b1 ((bit_v O hO16 1 (by omega)).2 h)
       refine cond_d (fun b2=>cond_dk hyY (cond_dk hyY6 ?_)) (fun b2=>?_)
       ·have b2:O.testBit 2=true:=(bit_v O hO16 2 (by omega)).1 b2
        exact fin3 (if_pos b0).symm (if_neg b1).symm (if_pos b2).symm
       ·have b2:¬ O.testBit 2=true:=fun h=>b2 ((bit_v O hO16 2 (by omega)).2 h)
        exact fin3 (if_pos b0).symm (if_neg b1).symm (if_neg b2).symm
     ·have b0:¬ O.testBit 0=true:=fun h=>b0 ((bit_v O hO16 0 (by omega)).2 h)
      refine cond_d (fun b1=>cond_dk hyY (cond_dk hyY6 ?_)) (fun b1=>?_)
      ·have b1:O.testBit 1=true:=(bit_v O hO16 1 (by omega)).1 b1
       refine cond_d (fun b2=>cond_dk hyY (cond_dk hyY6 ?_)) (fun b2=>?_)
       ·have b2:O.testBit 2=true:=(bit_v O hO16 2 (by omega)).1 b2
        exact fin3 (if_neg b0).symm (if_pos b1).symm (if_pos b2).symm
       ·have b2:¬ O.testBit 2=true:=fun h=>b2 ((bit_v O hO16 2 (by omega)).2 h)
        exact fin3 (if_neg b0).symm (if_pos b1).symm (if_neg b2).symm
      ·have b1:¬ O.testBit 1=true:=fun h=>b1 ((bit_v O hO16 1 (by omega)).2 h)
       refine cond_d (fun b2=>cond_dk hyY (cond_dk hyY6 ?_)) (fun b2=>?_)
       ·have b2:O.testBit 2=true:=(bit_v O hO16 2 (by omega)).1 b2
        exact fin3 (if_neg b0).symm (if_neg b1).symm (if_pos b2).symm
       ·have b2:¬ O.testBit 2=true:=fun h=>b2 ((bit_v O hO16 2 (by omega)).2 h)
        exact fin3 (if_neg b0).symm (if_neg b1).symm (if_neg b2).symm
  ·rintro lock tt h K ⟨M,es,hf,⟨_,_,hpw⟩,k1,k2⟩
   refine ⟨⟨M,0,M,es⟩,?_,⟨all_pos hm0,hpw.2.2.2,Same.refl _ _ _ _,fun i hi=>absurd hi (Nat.not_lt_zero i)⟩,?_⟩
   ·dsimp only
    rw [chAt_zero hm0]; exact hf
   ·rintro e vs bs ⟨rfl,rfl,st,n',⟨hp,rfl⟩ | ⟨hp,rfl⟩⟩
    ·exact k1 st n' hp
    ·exact k2 st n' hp
 ·rintro lock tt h K ⟨M,es,hf,⟨h1,h2,h3⟩,_⟩
  exact (hh ⟨h1,h2,h3.1,h3.2.1,h3.2.2.1⟩).elim
end
section
variable {l:List Stk} {t:Tst} {D0 D1 D2:List Int} {Y k:Nat}
theorem lift3 {f:FuncId} {args:List VV} {b:Bool} {s:St} {M:Mde} {es:Lst} {nx:Nat} {bs:List (Nat × VB)} (ha:belL 14 args=true) (hr:renL id args=args) (hnx:14<=nx) (hat:atL nsB3 (BP3 l t [D0,D1,D2] Y M es) ⟨nx,bs⟩)
  (hc:CallsV Try.prog f args ⟨14,nsB3.zip (BP3 l t [D0,D1,D2] Y M es)⟩ (.ret (.bool b)) ⟨14,nsB3.zip (BP3 l t [D0,D1,D2] Y s.M s.es)⟩) :
  CallsV Try.prog f args ⟨nx,bs⟩ (.ret (.bool b)) ⟨nx,(7,.fam [] (Y*6) (s.M 0) 80)::(8,.fam [] (Y*6) (s.M 1) 80)::(9,.fam [] (Y*6) (s.M 2) 80)::(10,.map kS .bool s.es)::bs⟩:=by
 obtain ⟨e0,e1,e2,e3,e4,e5,e6,e7,e8,e9,e10,e11,e12,e13,_⟩:=hat
 have:=calls_ren (P:=Try.prog) (h:=⟨nx,bs⟩) (h1:=⟨nx,(7,.fam [] (Y*6) (s.M 0) 80)::(8,.fam [] (Y*6) (s.M 1) 80)::(9,.fam [] (Y*6) (s.M 2) 80)::(10,.map kS .bool s.es)::bs⟩) id (fun _ _ _ _ h=>h) hc (fun n hn=>by
  have hn:n<14:=hn
  match n,hn with
  | 0,_=>exact ⟨trivial,e0⟩
  | 1,_=>exact ⟨trivial,e1⟩
  | 2,_=>exact ⟨trivial,e2⟩
  | 3,_=>exact ⟨trivial,e3⟩
  | 4,_=>exact ⟨trivial,e4⟩
  | 5,_=>exact ⟨trivial,e5⟩
  | 6,_=>exact ⟨trivial,e6⟩
  | 7,_=>exact ⟨trivial,e7⟩
  | 8,_=>exact ⟨trivial,e8⟩
  | 9,_=>exact ⟨trivial,e9⟩
  | 10,_=>exact ⟨trivial,e10⟩
  | 11,_=>exact ⟨trivial,e11⟩
  | 12,_=>exact ⟨trivial,e12⟩
  | 13,_=>exact ⟨trivial,e13⟩
  | _+14,hn=>exact absurd hn (by omega)) (fun n hn=>by
  have hn:n<14:=hn
  match n,hn with
  | 0,_=>exact ⟨trivial,rfl,e0⟩
  | 1,_=>exact ⟨trivial,rfl,e1⟩
  | 2,_=>exact ⟨trivial,rfl,e2⟩
  | 3,_=>exact ⟨trivial,rfl,e3⟩
  | 4,_=>exact ⟨trivial,rfl,e4⟩
  | 5,_=>exact ⟨trivial,rfl,e5⟩
  | 6,_=>exact ⟨trivial,rfl,e6⟩
  | 7,_=>exact ⟨trivial,rfl,at_lt (show 7<nx by omega)⟩
  | 8,_=>exact ⟨trivial,rfl,at_lt (show 8<nx by omega)⟩
  | 9,_=>exact ⟨trivial,rfl,at_lt (show 9<nx by omega)⟩
  | 10,_=>exact ⟨trivial,rfl,at_lt (show 10<nx by omega)⟩
  | 11,_=>exact ⟨trivial,rfl,e11⟩
  | 12,_=>exact ⟨trivial,rfl,e12⟩
  | 13,_=>exact ⟨trivial,rfl,e13⟩
  | _+14,hn=>exact absurd hn (by omega)) (fun q hq=>by
  have hq:∀ n,n<14->n ≠ q:=fun n hn=>hq n hn
  rw [at_ne (hq 7 (by omega)),at_ne (hq 8 (by omega)),at_ne (hq 9 (by omega)),at_ne (hq 10 (by omega))]) (fun n hn=>by
  have hn:n<14:=hn
  match n,hn with
  | 0,_=>rfl
  | 1,_=>rfl
  | 2,_=>rfl
  | 3,_=>rfl
  | 4,_=>rfl
  | 5,_=>rfl
  | 6,_=>rfl
  | 7,_=>rfl
  | 8,_=>rfl
  | 9,_=>rfl
  | 10,_=>rfl
  | 11,_=>rfl
  | 12,_=>rfl
  | 13,_=>rfl
  | _+14,hn=>exact absurd hn (by omega)) ha rfl
 rw [hr] at this
 exact this
theorem follow_v3 (hfind:SpOk Try.prog (findR3 l t [D0,D1,D2] Y k).1 (findR3 l t [D0,D1,D2] Y k).2) (cf:Cfg l t [D0,D1,D2] Y) {y S d:Int} {O:Nat} {a:Nat->Int} {M:Mde} {es:Lst} (hy:y=(Y:Int) - (k+1:Nat)) (hp:PreW l t [D0,D1,D2] Y k O a es) :
  ∃ b s,PostW l t [D0,D1,D2] Y k O d a M b s/\CallsV Try.prog 40 [.agg (I y::I S::nL a),I O,I d,.ptr (.own 3 0),.ptr (.own 12 0),.ptr (.own 1 0),.ptr (.own 6 0)] ⟨14,nsB3.zip (BP3 l t [D0,D1,D2] Y M es)⟩ (.ret (.bool b)) ⟨14,nsB3.zip (BP3 l t [D0,D1,D2] Y s.M s.es)⟩:=by
 have hall:LoopsOk Try.prog 74 [(0,lFo3 l t [D0,D1,D2] Y k y S d O a)]:=fun x hx=>by
  simp only [List.mem_singleton] at hx
  subst hx
  exact ⟨by kernel_rfl,lFo3_ok hfind⟩
 obtain ⟨r,h',⟨b,s,hw,rfl,hf⟩,hc⟩:=of_callN (callL_good hmix noSp hall (un:=10) 20) (f:=40) (args:=[.agg (I y::I S::nL a),I O,I d,.ptr (.own 3 0),.ptr (.own 12 0),.ptr (.own 1 0),.ptr (.own 6 0)]) (h:=⟨14,nsB3.zip (BP3 l t [D0,D1,D2] Y M es)⟩) (K:=fun r h'=>∃ b s,PostW l t [D0,D1,D2] Y k O d a M b s/\r=.ret (.bool b)/\fitB (nsB3.zip (BP3 l t [D0,D1,D2] Y s.M s.es)) h') (by
  refine cast (fob3_ev l t D0 D1 D2 Y k M es y S d O a _).symm ⟨M,es,⟨⟨rfl,rfl,by repeat (first | exact trivial | refine ⟨VB.fit_refl _,?_⟩)⟩,rfl,rfl,rfl,rfl,trivial⟩,⟨hy,cf,hp⟩,fun s n' hw=>⟨false,s,hw,rfl,by repeat (first | exact trivial | refine ⟨VB.fit_refl _,?_⟩)⟩,fun s n' hw=>⟨true,s,hw,rfl,by repeat (first | exact trivial | refine ⟨VB.fit_refl _,?_⟩)⟩⟩)
 exact ⟨b,s,hw,calls_weak hc (Nat.le_refl _) hf rfl rfl⟩
theorem folR3_ok (hfind:SpOk Try.prog (findR3 l t [D0,D1,D2] Y k).1 (findR3 l t [D0,D1,D2] Y k).2) (cf:Cfg l t [D0,D1,D2] Y):SpOk Try.prog (folR3 l t [D0,D1,D2] Y k).1 (folR3 l t [D0,D1,D2] Y k).2:=by
 intro lock args h K hK
 simp only [folR3] at hK
 split at hK
 ·rename_i nx bs
  obtain ⟨S',O,a,M,es,⟨rfl,rfl,rfl,rfl⟩,⟨rfl,hnx⟩,hat,⟨hy,rfl,rfl,rfl⟩,hp,hK⟩:=hK
  obtain ⟨b,s,hw,hc⟩:=follow_v3 hfind cf hy hp
  exact ⟨_,_,hK b s hw,lock0 _ _,lift3 rfl rfl hnx hat hc⟩
 ·exact hK.elim
structure FS3 where
 M0:Mde
 r:Nat
 acc:Rsl
 s:St
def OF3 (l:List Stk) (t:Tst) (P:List (List Int)) (Y k:Nat) (y:Int) (S:Nat) (a:Nat->Int) (f:FS3) (e:VEx) (vs:List VV) (bs:List VB):Prop:=
 (e=.exit 0/\vs=VF3 y S a 0/\∃ st,PostF l t P Y (k+1) S a f.M0 true st/\bs=BF3 l t P Y y S a st.M st.es) ∨ (e=.ret/\∃ (r:Int) (st:St),PostF l t P Y (k+1) S a f.M0 false st/\vs=VF3 y S a r/\bs=BF3 l t P Y y S a st.M st.es)
theorem lFi3_ok (hfol:SpOk Try.prog (folR3 l t [D0,D1,D2] Y k).1 (folR3 l t [D0,D1,D2] Y k).2) {y:Int} {S:Nat} {a:Nat->Int}:LSound Try.prog true (.block 0 (.loop (loopB 0 (bodyOf Try.prog 44)))) (ntOf Try.prog 44) (lFi3 l t [D0,D1,D2] Y k y S a):=by
 by_cases hh:y=(Y:Int) - (k+1:Nat)/\Cfg l t [D0,D1,D2] Y/\k+1<=Y/\leftB l a
 ·obtain ⟨hy,cf,hk,ha⟩:=hh
  refine loop_rowD hmix (noL_good (tab1 hfol)) (un:=10) (ds:=dsF3) (ns:=nsF3) (nx:=15) (lsp:=fun f:FS3=>tabB [(2,lG3 l t [D0,D1,D2] Y k y S a f.r)]) (fun f:FS3=>VF3 y S a f.r) (fun f=>BF3 l t [D0,D1,D2] Y y S a f.s.M f.s.es) (fun f=>DoneF l t [D0,D1,D2] Y k S a f.M0 f.r f.acc f.s) (fun f=>f.r) (OF3 l t [D0,D1,D2] Y k y S a) (fun _ _=>lsp_one (by kernel_rfl) lG3_ok) ?_ ?_
  ·rintro ⟨M0,r,acc,s⟩ hd
   dsimp only at hd ⊢
   refine cast (gm3_ev l t D0 D1 D2 Y k s.M s.es y S r a _).symm ?_
   have hr16:r<16:=Nat.lt_of_lt_of_le hd.lt (Nat.pow_le_pow_right (n:=2) (by omega) (show 3<=4 by omega))
   by_cases hr:r=0
   ·subst hr
    refine cond_d (fun h=>by omega) (fun _=>.inl ⟨rfl,rfl,s,done_end hd,rfl⟩)
   ·refine cond_dk (by omega) ⟨s.M,s.es,⟨⟨rfl,rfl,by repeat (first | exact trivial | refine ⟨VB.fit_refl _,?_⟩)⟩,rfl,rfl,rfl,rfl,rfl,rfl,rfl,rfl,rfl,rfl,rfl,rfl,rfl,trivial⟩,⟨by omega,hk,cf,hr16⟩,?_⟩
    intro o d hg
    have ho:o<2 ^ [D0,D1,D2].length:=by
     have:=grpF_le cf.nd (Y - (k+1)) r [D0,D1,D2].length
     rw [hg] at this; exact this
    have ho16:o<16:=Nat.lt_of_lt_of_le ho (Nat.pow_le_pow_right (n:=2) (by omega) (show 3<=4 by omega))
    refine ⟨S,o,a,s.M,s.es,⟨rfl,rfl,rfl,rfl⟩,⟨rfl,by omega⟩,⟨rfl,rfl,rfl,rfl,rfl,rfl,rfl,rfl,rfl,rfl,rfl,rfl,rfl,rfl,trivial⟩,⟨hy,rfl,rfl,rfl⟩,⟨hk,ho,ha,hd.lost⟩,?_⟩
    intro b s' hw
    obtain ⟨d1,d2⟩:=done_step cf.nd hd hr hg (s':=s')
    refine cond_i (fun g=>?_) (fun g=>?_)
    ·have g:b=false:=by simpa using g
     subst g
     obtain ⟨z1,z2,z3⟩:=d2 hw
     refine ⟨key82,.inr ⟨rfl,r,⟨s'.M,setE s'.es (kyF y S a) 1⟩,⟨by rw [z1]; rfl,?_,z3,fun x hx=>by rw [z1] at hx; cases hx⟩,rfl,rfl⟩⟩
     have:=lost_set z2 hk z1
     rw [<- hy] at this
     exact this
    ·have g:b=true:=by simpa using g
     subst g
     obtain ⟨acc',hd',hlt⟩:=d1 hw
     rw [andnot_v r hr16 o ho16]
     exact ⟨⟨M0,_,acc',s'⟩,hd',hlt,rfl,fitBs_refl _,fun _ _ _ h=>h⟩
  ·rintro lock tt h K ⟨M,es,hf,⟨_,_,hp⟩,k1,k2⟩
   refine ⟨⟨M,S,fun _ _ _=>0,⟨M,es⟩⟩,hf,done_start hp,?_⟩
   rintro e vs bs (⟨rfl,rfl,st,hp,rfl⟩ | ⟨rfl,r,st,hp,rfl,rfl⟩)
   ·exact k1 st hp
   ·exact k2 st r hp
 ·rintro lock tt h K ⟨M,es,hf,⟨h1,h2,h3⟩,_⟩
  exact (hh ⟨h1,h2,h3.1,h3.2.2.1⟩).elim
theorem find_z3 (cf:Cfg l t [D0,D1,D2] Y) {y:Int} {S:Nat} {a:Nat->Int} {M:Mde} {es:Lst} (hy:y=(Y:Int)) (hp:PreF l t [D0,D1,D2] Y 0 S a es) :
  ∃ b s,PostF l t [D0,D1,D2] Y 0 S a M b s/\CallsV Try.prog 44 [.agg (I y::I S::nL a),.ptr (.own 4 0),.ptr (.own 11 0),.ptr (.own 1 0),.ptr (.own 13 0)] ⟨14,nsB3.zip (BP3 l t [D0,D1,D2] Y M es)⟩ (.ret (.bool b)) ⟨14,nsB3.zip (BP3 l t [D0,D1,D2] Y s.M s.es)⟩:=by
 have hall:LoopsOk Try.prog 44 [(0,lZ)]:=fun x hx=>by
  simp only [List.mem_singleton] at hx
  subst hx
  exact ⟨by kernel_rfl,lZ_ok⟩
 obtain ⟨r,h',⟨rfl,hf⟩,hc⟩:=of_callN (callL_good hmix noSp hall (un:=10) 20) (f:=44) (args:=[.agg (I y::I S::nL a),.ptr (.own 4 0),.ptr (.own 11 0),.ptr (.own 1 0),.ptr (.own 13 0)]) (h:=⟨14,nsB3.zip (BP3 l t [D0,D1,D2] Y M es)⟩) (K:=fun r h'=>r=.ret (.bool true)/\fitB (nsB3.zip (BP3 l t [D0,D1,D2] Y M es)) h') (by
  refine cast (fiz3_ev l t D0 D1 D2 Y M es y S a _).symm (cond_dk hy ⟨rfl,by repeat (first | exact trivial | refine ⟨VB.fit_refl _,?_⟩)⟩))
 exact ⟨true,⟨M,es⟩,⟨rfl,hp.2.2.2,Same.refl _ _ _ _,fun x _ i y j _ _ h1 h2=>by omega⟩,calls_weak hc (Nat.le_refl _) hf rfl rfl⟩
theorem find_s3 (hfol:SpOk Try.prog (folR3 l t [D0,D1,D2] Y k).1 (folR3 l t [D0,D1,D2] Y k).2) (cf:Cfg l t [D0,D1,D2] Y) {y:Int} {S:Nat} {a:Nat->Int} {M:Mde} {es:Lst} (hy:y=(Y:Int) - (k+1:Nat)) (hp:PreF l t [D0,D1,D2] Y (k+1) S a es) :
  ∃ b s,PostF l t [D0,D1,D2] Y (k+1) S a M b s/\CallsV Try.prog 44 [.agg (I y::I S::nL a),.ptr (.own 4 0),.ptr (.own 11 0),.ptr (.own 1 0),.ptr (.own 13 0)] ⟨14,nsB3.zip (BP3 l t [D0,D1,D2] Y M es)⟩ (.ret (.bool b)) ⟨14,nsB3.zip (BP3 l t [D0,D1,D2] Y s.M s.es)⟩:=by
 have hall:LoopsOk Try.prog 44 [(0,lFi3 l t [D0,D1,D2] Y k y S a)]:=fun x hx=>by
  simp only [List.mem_singleton] at hx
  subst hx
  exact ⟨by kernel_rfl,lFi3_ok hfol⟩
 obtain ⟨r,h',⟨b,s,hw,rfl,hf⟩,hc⟩:=of_callN (callL_good hmix noSp hall (un:=10) 20) (f:=44) (args:=[.agg (I y::I S::nL a),.ptr (.own 4 0),.ptr (.own 11 0),.ptr (.own 1 0),.ptr (.own 13 0)]) (h:=⟨14,nsB3.zip (BP3 l t [D0,D1,D2] Y M es)⟩) (K:=fun r h'=>∃ b s,PostF l t [D0,D1,D2] Y (k+1) S a M b s/\r=.ret (.bool b)/\fitB (nsB3.zip (BP3 l t [D0,D1,D2] Y s.M s.es)) h') (by
  refine cast (fib3_ev l t D0 D1 D2 Y k M es y S a _).symm ?_
  have hk:=hp.1
  refine cond_d (fun h=>by omega) (fun _=>⟨key82,cond_d (fun h=>⟨false,⟨M,es⟩,?_,rfl,by repeat (first | exact trivial | refine ⟨VB.fit_refl _,?_⟩)⟩) (fun _=>⟨M,es,⟨⟨rfl,rfl,by repeat (first | exact trivial | refine ⟨VB.fit_refl _,?_⟩)⟩,rfl,rfl,rfl,rfl,rfl,rfl,rfl,rfl,trivial⟩,⟨hy,cf,hp⟩,fun s hw=>⟨true,s,hw,rfl,by repeat (first | exact trivial | refine ⟨VB.fit_refl _,?_⟩)⟩,fun s r hw=>⟨false,s,hw,rfl,by repeat (first | exact trivial | refine ⟨VB.fit_refl _,?_⟩)⟩⟩)⟩)
  have h:valOf es (kyF y S a)=1:=h
  have hn:=lost_get cf.hl.1 hp.2.2.2 (S:=S) (a:=a) hk (by rw [<- hy,h]; omega)
  exact ⟨by rw [hn]; rfl,hp.2.2.2,Same.refl _ _ _ _,fun x hx=>by rw [hn] at hx; cases hx⟩)
 exact ⟨b,s,hw,calls_weak hc (Nat.le_refl _) hf rfl rfl⟩
theorem findR3_ok (cf:Cfg l t [D0,D1,D2] Y):∀ k:Nat,SpOk Try.prog (findR3 l t [D0,D1,D2] Y k).1 (findR3 l t [D0,D1,D2] Y k).2:=by
 have key:∀ k:Nat,(∀ (y:Int) (S:Nat) (a:Nat->Int) (M:Mde) (es:Lst),y=(Y:Int) - k->PreF l t [D0,D1,D2] Y k S a es->∃ b s,PostF l t [D0,D1,D2] Y k S a M b s/\CallsV Try.prog 44 [.agg (I y::I S::nL a),.ptr (.own 4 0),.ptr (.own 11 0),.ptr (.own 1 0),.ptr (.own 13 0)] ⟨14,nsB3.zip (BP3 l t [D0,D1,D2] Y M es)⟩ (.ret (.bool b)) ⟨14,nsB3.zip (BP3 l t [D0,D1,D2] Y s.M s.es)⟩)->SpOk Try.prog (findR3 l t [D0,D1,D2] Y k).1 (findR3 l t [D0,D1,D2] Y k).2:=by
  intro k hv lock args h K hK
  simp only [findR3] at hK
  split at hK
  ·rename_i nx bs
   obtain ⟨S',a,M,es,⟨rfl,rfl,rfl,rfl⟩,⟨rfl,hnx⟩,hat,⟨hy,rfl,rfl⟩,hp,hK⟩:=hK
   obtain ⟨b,s,hw,hc⟩:=hv _ S' a M es hy hp
   exact ⟨_,_,hK b s hw,lock0 _ _,lift3 rfl rfl hnx hat hc⟩
  ·exact hK.elim
 intro k
 induction k with
 | zero=>exact key 0 (fun y S a M es hy hp=>find_z3 cf (by omega) hp)
 | succ k ih=>exact key (k+1) (fun y S a M es hy hp=>find_s3 (folR3_ok ih cf) cf hy hp)
end
def nsPl3:List Nat:=[5,7,8,9]
def BPl3 (Y:Nat) (M:Mde):List VB:=[.cells [sFa 7 Y,sFa 8 Y,sFa 9 Y] 76,.fam [] (Y*6) (M 0) 80,.fam [] (Y*6) (M 1) 80,.fam [] (Y*6) (M 2) 80]
def lCp3 (l:List Stk) (t:Tst) (P:List (List Int)) (Y:Nat):LT:=fun lock tt h K=>match h.nx with
 | 14=>∃ (M:Mde),FitP lock h tt ⟨14,nsPl3.zip (BPl3 Y M)⟩ ((18,.nils)::dsPl.zip (VPl l t P Y 3 0 .nils 0))/\K .normal ((18,.tl Y 1 (rowG l.length M 0))::(18::dsPl).zip (.sl 14 Y::VPl l t P Y 3 0 .nils Y)) ⟨15,(14,.gone)::(14::nsPl3).zip (.vec Y (rowG l.length M 0) 1 23::(BPl3 Y M))⟩
 | 17=>∃ (M:Mde) (gO:Nat->List VV),FitP lock h tt ⟨17,(16::nsPl3).zip (.vec 1 gO 1 26::BPl3 Y M)⟩ ((18,.nils)::dsPl.zip (VPl l t P Y 3 1 (.sl 16 1) 0))/\K .normal ((18,.tl Y 1 (rowG l.length M 1))::(18::dsPl).zip (.sl 17 Y::VPl l t P Y 3 1 (.sl 16 1) Y)) ⟨18,(17,.gone)::(17::(16::nsPl3)).zip (.vec Y (rowG l.length M 1) 1 23::(.vec 1 gO 1 26::BPl3 Y M))⟩
 | 19=>∃ (M:Mde) (gO:Nat->List VV),FitP lock h tt ⟨19,(16::nsPl3).zip (.vec 2 gO 1 26::BPl3 Y M)⟩ ((18,.nils)::dsPl.zip (VPl l t P Y 3 2 (.sl 16 2) 0))/\K .normal ((18,.tl Y 1 (rowG l.length M 2))::(18::dsPl).zip (.sl 19 Y::VPl l t P Y 3 2 (.sl 16 2) Y)) ⟨20,(19,.gone)::(19::(16::nsPl3)).zip (.vec Y (rowG l.length M 2) 1 23::(.vec 2 gO 1 26::BPl3 Y M))⟩
 | _=>False
theorem cp30_ev (l:List Stk) (t:Tst) (P:List (List Int)) (Y y:Nat) (M:Mde) (g:Nat->List VV) (X:VEx->List VV->List VB->Prop):codeE Try.prog (callN Try.prog (tabS [listT]) noL 10 20) (fun _=>none) true 10 (ntOf Try.prog 17) 0 (loopB 5 (bodyOf Try.prog 17)) ((18::dsPl).zip (.sl 14 y::VPl l t P Y 3 0 .nils y)) ⟨15,(14::nsPl3).zip (.vec y g 1 23::(BPl3 Y M))⟩ (obs 15 (18::dsPl) (14::nsPl3) X) =
 (let z1:=[M 0 (0+(↑y:Int).toNat*(6)+0),M 0 (0+(↑y:Int).toNat*(6)+1),M 0 (0+(↑y:Int).toNat*(6)+2),M 0 (0+(↑y:Int).toNat*(6)+3),M 0 (0+(↑y:Int).toNat*(6)+4),M 0 (0+(↑y:Int).toNat*(6)+5)];
 (bif decide ((↑y:Int)<(↑Y:Int)) then
 bif decide ((0:Int)<=(↑y:Int)/\(↑y:Int)<(↑Y:Int)) then
 bif decide (0+(↑y:Int).toNat*(6)+(6)<=Y*6) then
 ∃ (n:Nat->Int),∃ (m:Nat),[I (setF (fun (_:Nat)=>(0:Int)) 0 z1 (0+0)),I (setF (fun (_:Nat)=>(0:Int)) 0 z1 (0+1)),I (setF (fun (_:Nat)=>(0:Int)) 0 z1 (0+2)),I (setF (fun (_:Nat)=>(0:Int)) 0 z1 (0+3)),I (setF (fun (_:Nat)=>(0:Int)) 0 z1 (0+4)),I (setF (fun (_:Nat)=>(0:Int)) 0 z1 (0+5))]=nL n/\(↑l.length:Int)=(↑m:Int)/\m<=6/\bif y.beq y then
 bif roomB (y+1) (24) then
 bif inK .i64 ((↑y:Int)+(1:Int)) then
 X .normal [VV.sl 14 (y+1),I ((↑y:Int)+(1:Int)),I (↑Y:Int),VV.slice (.fa (7+0) 0 0) Y Y,I (↑0:Int),I (↑3:Int),VV.slice (.own 5 0) 3 3,VV.nils,I 0,VV.nils,VV.ptr (.own 1 0),VV.ptr (.own 0 0),VV.tl l.length 5 (stG l),VV.agg [VV.tl t.T.length 1 (dG t.T),I t.far,I t.least],VV.tl P.length 1 (pthG P)] [VB.vec (y+1) (catG y g (oneL 1 [VV.tl m 1 (chG n)])) (1) 23,VB.cells [sFa 7 Y,sFa 8 Y,sFa 9 Y] 76,VB.fam [] (Y*6) (M 0) 80,VB.fam [] (Y*6) (M 1) 80,VB.fam [] (Y*6) (M 2) 80]
 else False
 else False
 else False
 else False
 else False
 else X (.exit 5) [VV.sl 14 y,I (↑y:Int),I (↑Y:Int),VV.slice (.fa (7+0) 0 0) Y Y,I (↑0:Int),I (↑3:Int),VV.slice (.own 5 0) 3 3,VV.nils,I 0,VV.nils,VV.ptr (.own 1 0),VV.ptr (.own 0 0),VV.tl l.length 5 (stG l),VV.agg [VV.tl t.T.length 1 (dG t.T),I t.far,I t.least],VV.tl P.length 1 (pthG P)] [VB.vec y g 1 23,VB.cells [sFa 7 Y,sFa 8 Y,sFa 9 Y] 76,VB.fam [] (Y*6) (M 0) 80,VB.fam [] (Y*6) (M 1) 80,VB.fam [] (Y*6) (M 2) 80])):=by kernel_rfl
theorem cp31_ev (l:List Stk) (t:Tst) (P:List (List Int)) (Y y:Nat) (M:Mde) (g gO:Nat->List VV) (X:VEx->List VV->List VB->Prop):codeE Try.prog (callN Try.prog (tabS [listT]) noL 10 20) (fun _=>none) true 10 (ntOf Try.prog 17) 0 (loopB 5 (bodyOf Try.prog 17)) ((18::dsPl).zip (.sl 17 y::VPl l t P Y 3 1 (.sl 16 1) y)) ⟨18,(17::(16::nsPl3)).zip (.vec y g 1 23::(.vec 1 gO 1 26::BPl3 Y M))⟩ (obs 18 (18::dsPl) (17::(16::nsPl3)) X) =
 (let z1:=[M 1 (0+(↑y:Int).toNat*(6)+0),M 1 (0+(↑y:Int).toNat*(6)+1),M 1 (0+(↑y:Int).toNat*(6)+2),M 1 (0+(↑y:Int).toNat*(6)+3),M 1 (0+(↑y:Int).toNat*(6)+4),M 1 (0+(↑y:Int).toNat*(6)+5)];
 (bif decide ((↑y:Int)<(↑Y:Int)) then
 bif decide ((0:Int)<=(↑y:Int)/\(↑y:Int)<(↑Y:Int)) then
 bif decide (0+(↑y:Int).toNat*(6)+(6)<=Y*6) then
 ∃ (n:Nat->Int),∃ (m:Nat),[I (setF (fun (_:Nat)=>(0:Int)) 0 z1 (0+0)),I (setF (fun (_:Nat)=>(0:Int)) 0 z1 (0+1)),I (setF (fun (_:Nat)=>(0:Int)) 0 z1 (0+2)),I (setF (fun (_:Nat)=>(0:Int)) 0 z1 (0+3)),I (setF (fun (_:Nat)=>(0:Int)) 0 z1 (0+4)),I (setF (fun (_:Nat)=>(0:Int)) 0 z1 (0+5))]=nL n/\(↑l.length:Int)=(↑m:Int)/\m<=6/\bif y.beq y then
 bif roomB (y+1) (24) then
 bif inK .i64 ((↑y:Int)+(1:Int)) then
 X .normal [VV.sl 17 (y+1),I ((↑y:Int)+(1:Int)),I (↑Y:Int),VV.slice (.fa (7+1) 0 0) Y Y,I (↑1:Int),I (↑3:Int),VV.slice (.own 5 0) 3 3,VV.sl 16 1,I 0,VV.nils,VV.ptr (.own 1 0),VV.ptr (.own 0 0),VV.tl l.length 5 (stG l),VV.agg [VV.tl t.T.length 1 (dG t.T),I t.far,I t.least],VV.tl P.length 1 (pthG P)] [VB.vec (y+1) (catG y g (oneL 1 [VV.tl m 1 (chG n)])) (1) 23,VB.vec 1 gO 1 26,VB.cells [sFa 7 Y,sFa 8 Y,sFa 9 Y] 76,VB.fam [] (Y*6) (M 0) 80,VB.fam [] (Y*6) (M 1) 80,VB.fam [] (Y*6) (M 2) 80]
 else False
 else False
 else False
 else False
 else False
 else X (.exit 5) [VV.sl 17 y,I (↑y:Int),I (↑Y:Int),VV.slice (.fa (7+1) 0 0) Y Y,I (↑1:Int),I (↑3:Int),VV.slice (.own 5 0) 3 3,VV.sl 16 1,I 0,VV.nils,VV.ptr (.own 1 0),VV.ptr (.own 0 0),VV.tl l.length 5 (stG l),VV.agg [VV.tl t.T.length 1 (dG t.T),I t.far,I t.least],VV.tl P.length 1 (pthG P)] [VB.vec y g 1 23,VB.vec 1 gO 1 26,VB.cells [sFa 7 Y,sFa 8 Y,sFa 9 Y] 76,VB.fam [] (Y*6) (M 0) 80,VB.fam [] (Y*6) (M 1) 80,VB.fam [] (Y*6) (M 2) 80])):=by kernel_rfl
theorem cp32_ev (l:List Stk) (t:Tst) (P:List (List Int)) (Y y:Nat) (M:Mde) (g gO:Nat->List VV) (X:VEx->List VV->List VB->Prop):codeE Try.prog (callN Try.prog (tabS [listT]) noL 10 20) (fun _=>none) true 10 (ntOf Try.prog 17) 0 (loopB 5 (bodyOf Try.prog 17)) ((18::dsPl).zip (.sl 19 y::VPl l t P Y 3 2 (.sl 16 2) y)) ⟨20,(19::(16::nsPl3)).zip (.vec y g 1 23::(.vec 2 gO 1 26::BPl3 Y M))⟩ (obs 20 (18::dsPl) (19::(16::nsPl3)) X) =
 (let z1:=[M 2 (0+(↑y:Int).toNat*(6)+0),M 2 (0+(↑y:Int).toNat*(6)+1),M 2 (0+(↑y:Int).toNat*(6)+2),M 2 (0+(↑y:Int).toNat*(6)+3),M 2 (0+(↑y:Int).toNat*(6)+4),M 2 (0+(↑y:Int).toNat*(6)+5)];
 (bif decide ((↑y:Int)<(↑Y:Int)) then
 bif decide ((0:Int)<=(↑y:Int)/\(↑y:Int)<(↑Y:Int)) then
 bif decide (0+(↑y:Int).toNat*(6)+(6)<=Y*6) then
 ∃ (n:Nat->Int),∃ (m:Nat),[I (setF (fun (_:Nat)=>(0:Int)) 0 z1 (0+0)),I (setF (fun (_:Nat)=>(0:Int)) 0 z1 (0+1)),I (setF (fun (_:Nat)=>(0:Int)) 0 z1 (0+2)),I (setF (fun (_:Nat)=>(0:Int)) 0 z1 (0+3)),I (setF (fun (_:Nat)=>(0:Int)) 0 z1 (0+4)),I (setF (fun (_:Nat)=>(0:Int)) 0 z1 (0+5))]=nL n/\(↑l.length:Int)=(↑m:Int)/\m<=6/\bif y.beq y then
 bif roomB (y+1) (24) then
 bif inK .i64 ((↑y:Int)+(1:Int)) then
 X .normal [VV.sl 19 (y+1),I ((↑y:Int)+(1:Int)),I (↑Y:Int),VV.slice (.fa (7+2) 0 0) Y Y,I (↑2:Int),I (↑3:Int),VV.slice (.own 5 0) 3 3,VV.sl 16 2,I 0,VV.nils,VV.ptr (.own 1 0),VV.ptr (.own 0 0),VV.tl l.length 5 (stG l),VV.agg [VV.tl t.T.length 1 (dG t.T),I t.far,I t.least],VV.tl P.length 1 (pthG P)] [VB.vec (y+1) (catG y g (oneL 1 [VV.tl m 1 (chG n)])) (1) 23,VB.vec 2 gO 1 26,VB.cells [sFa 7 Y,sFa 8 Y,sFa 9 Y] 76,VB.fam [] (Y*6) (M 0) 80,VB.fam [] (Y*6) (M 1) 80,VB.fam [] (Y*6) (M 2) 80]
 else False
 else False
 else False
 else False
 else False
 else X (.exit 5) [VV.sl 19 y,I (↑y:Int),I (↑Y:Int),VV.slice (.fa (7+2) 0 0) Y Y,I (↑2:Int),I (↑3:Int),VV.slice (.own 5 0) 3 3,VV.sl 16 2,I 0,VV.nils,VV.ptr (.own 1 0),VV.ptr (.own 0 0),VV.tl l.length 5 (stG l),VV.agg [VV.tl t.T.length 1 (dG t.T),I t.far,I t.least],VV.tl P.length 1 (pthG P)] [VB.vec y g 1 23,VB.vec 2 gO 1 26,VB.cells [sFa 7 Y,sFa 8 Y,sFa 9 Y] 76,VB.fam [] (Y*6) (M 0) 80,VB.fam [] (Y*6) (M 1) 80,VB.fam [] (Y*6) (M 2) 80])):=by kernel_rfl
def hpn3_1 (D0:List Int) (D1:List Int) (D2:List Int) (t:Tst):VH:=VH.mk (2) [(1,VB.cells [VV.tl [D0,D1,D2].length 1 (pthG [D0,D1,D2])] 26),(0,VB.cells [VV.tl t.T.length 1 (dG t.T),I t.far,I t.least] 25)]
def hpn3_2 (D0:List Int) (D1:List Int) (D2:List Int) (l:List Stk) (t:Tst):VH:=let z1:=(↑([D0,D1,D2].getD (Int.toNat (0:Int)) []).length:Int); VH.mk (14) ((12,VB.cells [VV.func 44 [] [VV.ptr (.own (4) 0),VV.ptr (.own (11) 0),VV.ptr (.own (1) 0),VV.ptr (.own (13) 0)]] 78)::(13,VB.cells [VV.func 40 [] [VV.ptr (.own (3) 0),VV.ptr (.own (12) 0),VV.ptr (.own (1) 0),VV.ptr (.own (6) 0)]] 88)::(13,VB.cells [VV.nilf] 88)::(12,VB.cells [VV.nilf] 78)::(11,VB.cells [VV.mp (10)] 77)::(11,VB.cells [VV.opq (Value.map none)] 77)::(10,VB.map ([PK.int IntKind.i64] ++ ([PK.int IntKind.i64] ++ ((List.replicate 6 [PK.int IntKind.i64]).flatten ++ []))) PK.bool [])::(5,VB.cells [VV.slice (.fa (7) 0 0) z1.toNat z1.toNat,VV.slice (.fa (8) 0 0) z1.toNat z1.toNat,VV.slice (.fa (9) 0 0) z1.toNat z1.toNat] 76)::([(9,VB.fam [] (z1.toNat*(6)) (fun (_:Nat)=>(0:Int)) 80)] ++ (5,VB.cells [VV.slice (.fa (7) 0 0) z1.toNat z1.toNat,VV.slice (.fa (8) 0 0) z1.toNat z1.toNat,VV.nils] 76)::([(8,VB.fam [] (z1.toNat*(6)) (fun (_:Nat)=>(0:Int)) 80)] ++ (5,VB.cells [VV.slice (.fa (7) 0 0) z1.toNat z1.toNat,VV.nils,VV.nils] 76)::([(7,VB.fam [] (z1.toNat*(6)) (fun (_:Nat)=>(0:Int)) 80)] ++ [(6,VB.cells [VV.slice (.own (5) 0) (3) (3)] 75),(6,VB.cells [VV.nils] 75),(5,VB.cells [VV.nils,VV.nils,VV.nils] 76),(4,VB.cells [I z1] 3),(4,VB.cells [I 0] 3),(3,VB.cells [VV.ptr (.own (2) 0)] 72),(3,VB.cells [VV.nilp] 72),(2,VB.cells (stD l::tsL t) 74),(1,VB.cells [VV.tl [D0,D1,D2].length 1 (pthG [D0,D1,D2])] 26),(0,VB.cells [VV.tl t.T.length 1 (dG t.T),I t.far,I t.least] 25)]))))
def hpn3_3 (D0:List Int) (D1:List Int) (D2:List Int) (l:List Stk) (s:St) (t:Tst):VH:=let z1:=(↑([D0,D1,D2].getD (Int.toNat (0:Int)) []).length:Int); VH.mk (14) [(7,VB.fam [] (D0.length*6) (s.M 0) 80),(8,VB.fam [] (D0.length*6) (s.M 1) 80),(9,VB.fam [] (D0.length*6) (s.M 2) 80),(10,VB.map kS PK.bool s.es),(12,VB.cells [VV.func 44 [] [VV.ptr (.own (4) 0),VV.ptr (.own (11) 0),VV.ptr (.own (1) 0),VV.ptr (.own (13) 0)]] 78),(13,VB.cells [VV.func 40 [] [VV.ptr (.own (3) 0),VV.ptr (.own (12) 0),VV.ptr (.own (1) 0),VV.ptr (.own (6) 0)]] 88),(13,VB.cells [VV.nilf] 88),(12,VB.cells [VV.nilf] 78),(11,VB.cells [VV.mp (10)] 77),(11,VB.cells [VV.opq (Value.map none)] 77),(10,VB.map kS PK.bool []),(5,VB.cells [VV.slice (.fa (7) 0 0) z1.toNat z1.toNat,VV.slice (.fa (8) 0 0) z1.toNat z1.toNat,VV.slice (.fa (9) 0 0) z1.toNat z1.toNat] 76),(9,VB.fam [] (z1.toNat*(6)) (fun (_:Nat)=>(0:Int)) 80),(5,VB.cells [VV.slice (.fa (7) 0 0) z1.toNat z1.toNat,VV.slice (.fa (8) 0 0) z1.toNat z1.toNat,VV.nils] 76),(8,VB.fam [] (z1.toNat*(6)) (fun (_:Nat)=>(0:Int)) 80),(5,VB.cells [VV.slice (.fa (7) 0 0) z1.toNat z1.toNat,VV.nils,VV.nils] 76),(7,VB.fam [] (z1.toNat*(6)) (fun (_:Nat)=>(0:Int)) 80),(6,VB.cells [VV.slice (.own (5) 0) (3) (3)] 75),(6,VB.cells [VV.nils] 75),(5,VB.cells [VV.nils,VV.nils,VV.nils] 76),(4,VB.cells [I z1] 3),(4,VB.cells [I 0] 3),(3,VB.cells [VV.ptr (.own (2) 0)] 72),(3,VB.cells [VV.nilp] 72),(2,VB.cells (stD l::tsL t) 74),(1,VB.cells [VV.tl [D0,D1,D2].length 1 (pthG [D0,D1,D2])] 26),(0,VB.cells [VV.tl t.T.length 1 (dG t.T),I t.far,I t.least] 25)]
def hpn3_4 (D0:List Int) (D1:List Int) (D2:List Int) (l:List Stk) (s:St) (t:Tst):VH:=let z1:=(↑([D0,D1,D2].getD (Int.toNat (0:Int)) []).length:Int); VH.mk (14) ((7,VB.fam [] (D0.length*6) (s.M 0) 80)::(8,VB.fam [] (D0.length*6) (s.M 1) 80)::(9,VB.fam [] (D0.length*6) (s.M 2) 80)::(10,VB.map kS PK.bool s.es)::(12,VB.cells [VV.func 44 [] [VV.ptr (.own (4) 0),VV.ptr (.own (11) 0),VV.ptr (.own (1) 0),VV.ptr (.own (13) 0)]] 78)::(13,VB.cells [VV.func 40 [] [VV.ptr (.own (3) 0),VV.ptr (.own (12) 0),VV.ptr (.own (1) 0),VV.ptr (.own (6) 0)]] 88)::(13,VB.cells [VV.nilf] 88)::(12,VB.cells [VV.nilf] 78)::(11,VB.cells [VV.mp (10)] 77)::(11,VB.cells [VV.opq (Value.map none)] 77)::(10,VB.map ([PK.int IntKind.i64] ++ ([PK.int IntKind.i64] ++ ((List.replicate 6 [PK.int IntKind.i64]).flatten ++ []))) PK.bool [])::(5,VB.cells [VV.slice (.fa (7) 0 0) z1.toNat z1.toNat,VV.slice (.fa (8) 0 0) z1.toNat z1.toNat,VV.slice (.fa (9) 0 0) z1.toNat z1.toNat] 76)::([(9,VB.fam [] (z1.toNat*(6)) (fun (_:Nat)=>(0:Int)) 80)] ++ (5,VB.cells [VV.slice (.fa (7) 0 0) z1.toNat z1.toNat,VV.slice (.fa (8) 0 0) z1.toNat z1.toNat,VV.nils] 76)::([(8,VB.fam [] (z1.toNat*(6)) (fun (_:Nat)=>(0:Int)) 80)] ++ (5,VB.cells [VV.slice (.fa (7) 0 0) z1.toNat z1.toNat,VV.nils,VV.nils] 76)::([(7,VB.fam [] (z1.toNat*(6)) (fun (_:Nat)=>(0:Int)) 80)] ++ [(6,VB.cells [VV.slice (.own (5) 0) (3) (3)] 75),(6,VB.cells [VV.nils] 75),(5,VB.cells [VV.nils,VV.nils,VV.nils] 76),(4,VB.cells [I z1] 3),(4,VB.cells [I 0] 3),(3,VB.cells [VV.ptr (.own (2) 0)] 72),(3,VB.cells [VV.nilp] 72),(2,VB.cells (stD l::tsL t) 74),(1,VB.cells [VV.tl [D0,D1,D2].length 1 (pthG [D0,D1,D2])] 26),(0,VB.cells [VV.tl t.T.length 1 (dG t.T),I t.far,I t.least] 25)]))))
def hpn3_5 (D0:List Int) (M:Mde) (l:List Stk):VH:=VH.mk (17) ((16,VB.vec 1 ((oneL 1 [VV.tl D0.length 1 (rowG l.length M 0)])) (1) 26)::(15,VB.vec 1 ((oneL 1 [VV.tl D0.length 1 (rowG l.length M 0)])) (1) 26)::(14,VB.gone)::(14::nsPl3).zip (VB.vec D0.length (rowG l.length M 0) 1 23::BPl3 D0.length M))
theorem pq3_ev (l:List Stk) (t:Tst) (D0 D1 D2:List Int) (Q:VRes->VH->Prop):callN Try.prog (tabS [asR l t,casksR l t,apR [D0,D1,D2],findR3 l t [D0,D1,D2] D0.length D0.length,listT]) (atF 17 [(5,lCp3 l t [D0,D1,D2] D0.length)]) 10 20 0 (.fn 17) [stD l,.agg (tsL t),pthD [D0,D1,D2]] ⟨0,[]⟩ (fun r h=>Q r h) =
 (let z1:=(↑([D0,D1,D2].getD (Int.toNat (0:Int)) []).length:Int);
 (isD (hpn3_1 D0 D1 D2 t) 2 (VV.tl l.length 5 (stG l)) (stD l)/\isD (hpn3_1 D0 D1 D2 t) 2 (VV.agg [VV.tl t.T.length 1 (dG t.T),I t.far,I t.least]) (VV.agg (tsL t))/\bif !okAll l t then
 Q (.ret (.tup [VV.nils,I 1])) (hpn3_1 D0 D1 D2 t)
 else isD (hpn3_1 D0 D1 D2 t) 4 (VV.tl [D0,D1,D2].length 1 (pthG [D0,D1,D2])) (pthD [D0,D1,D2])/\pthB [D0,D1,D2]/\bif !okPaths [D0,D1,D2] then
 Q (.ret (.tup [VV.nils,I 2])) (hpn3_1 D0 D1 D2 t)
 else bif decide ((0:Int)<=z1/\z1=z1) then
 bif roomB z1.toNat (48) then
 bif decide ((0:Int)<=z1/\z1=z1) then
 bif roomB z1.toNat (48) then
 bif decide ((0:Int)<=z1/\z1=z1) then
 bif roomB z1.toNat (48) then
 isD (maskH [0,1,2,3,4,5,6,7,8,9,10,11,12,13] (hpn3_2 D0 D1 D2 l t)) 4 (VV.ptr (.own (2) 0)) (VV.tp (stD l::tsL t))/\l.length<=6/\∃ (S':Nat),∃ (a:Nat->Int),∃ (M:Mde),∃ (es:Lst),(VV.ptr (.own 4 0)=VV.ptr (.own 4 0)/\VV.ptr (.own 11 0)=VV.ptr (.own 11 0)/\VV.ptr (.own 1 0)=VV.ptr (.own 1 0)/\VV.ptr (.own 13 0)=VV.ptr (.own 13 0))/\(0=0/\14<=14)/\atL nsB3 (BP3 l t [D0,D1,D2] D0.length M es) (hpn3_2 D0 D1 D2 l t)/\((0:Int)=(↑D0.length:Int) - (↑D0.length:Int)/\(1:Int)*(2:Int) ^ min (↑[D0,D1,D2].length:Int).toNat IntKind.i64.bits - (1:Int)=(↑S':Int)/\[I (mostF l 0),I (mostF l 1),I (mostF l 2),I (mostF l 3),I (mostF l 4),I (mostF l 5)]=nL a)/\PreF l t [D0,D1,D2] D0.length D0.length S' a es/\∀ (b:Bool) (s:St),PostF l t [D0,D1,D2] D0.length D0.length S' a M b s->bif !b then
 Q (.ret (.tup [VV.nils,I 4])) (hpn3_3 D0 D1 D2 l s t)
 else ∃ (M:Mde),FitP 0 (hpn3_4 D0 D1 D2 l s t) [(73,I 0),(72,I (↑z1.toNat:Int)),(71,VV.slice (.fa (7) 0 0) z1.toNat z1.toNat),(18,VV.nils),(17,VV.slice (.fa (7) 0 0) z1.toNat z1.toNat),(70,VV.slice (.fa (7) 0 0) z1.toNat z1.toNat),(69,VV.ptr (.own (5) 0)),(68,VV.bool true),(68,VV.bool (decide ((0:Int)<(↑(3):Int)))),(67,I 0),(66,I (↑(3):Int)),(65,VV.slice (.own (5) 0) (3) (3)),(15,VV.nils),(64,VV.bool false),(64,VV.bool !b),(63,VV.bool b),(62,VV.agg [I 0,I ((1:Int)*(2:Int) ^ min (↑[D0,D1,D2].length:Int).toNat IntKind.i64.bits - (1:Int)),I (mostF l 0),I (mostF l 1),I (mostF l 2),I (mostF l 3),I (mostF l 4),I (mostF l 5)]),(61,VV.agg (nL (mostF l))),(60,VV.ptr (.own (2) 0)),(59,I ((1:Int)*(2:Int) ^ min (↑[D0,D1,D2].length:Int).toNat IntKind.i64.bits - (1:Int))),(58,I ((1:Int)*(2:Int) ^ min (↑[D0,D1,D2].length:Int).toNat IntKind.i64.bits)),(57,I (↑[D0,D1,D2].length:Int)),(56,VV.tl [D0,D1,D2].length 1 (pthG [D0,D1,D2])),(55,VV.func 44 [] [VV.ptr (.own (4) 0),VV.ptr (.own (11) 0),VV.ptr (.own (1) 0),VV.ptr (.own (13) 0)]),(54,VV.func 44 [] [VV.ptr (.own (4) 0),VV.ptr (.own (11) 0),VV.ptr (.own (1) 0),VV.ptr (.own (13) 0)]),(14,VV.ptr (.own (13) 0)),(53,VV.func 40 [] [VV.ptr (.own (3) 0),VV.ptr (.own (12) 0),VV.ptr (.own (1) 0),VV.ptr (.own (6) 0)]),(13,VV.ptr (.own (12) 0)),(12,VV.ptr (.own (11) 0)),(52,VV.mp (10)),(44,VV.bool false),(44,VV.bool (decide ((0:Int)+(1:Int)+(1:Int)+(1:Int)<(↑(3):Int)))),(43,I ((0:Int)+(1:Int)+(1:Int)+(1:Int))),(51,I ((0:Int)+(1:Int)+(1:Int)+(1:Int))),(50,VV.ptr (.own (5) (2))),(49,VV.slice (.fa (9) 0 0) z1.toNat z1.toNat),(48,I z1),(47,I ((0:Int)+(1:Int)+(1:Int))),(46,VV.slice (.own (5) 0) (3) (3)),(11,I ((0:Int)+(1:Int)+(1:Int))),(45,I ((0:Int)+(1:Int)+(1:Int))),(44,VV.bool true),(44,VV.bool (decide ((0:Int)+(1:Int)+(1:Int)<(↑(3):Int)))),(43,I ((0:Int)+(1:Int)+(1:Int))),(51,I ((0:Int)+(1:Int)+(1:Int))),(50,VV.ptr (.own (5) (1))),(49,VV.slice (.fa (8) 0 0) z1.toNat z1.toNat),(48,I z1),(47,I ((0:Int)+(1:Int))),(46,VV.slice (.own (5) 0) (3) (3)),(11,I ((0:Int)+(1:Int))),(45,I ((0:Int)+(1:Int))),(44,VV.bool true),(44,VV.bool (decide ((0:Int)+(1:Int)<(↑(3):Int)))),(43,I ((0:Int)+(1:Int))),(51,I ((0:Int)+(1:Int))),(50,VV.ptr (.own (5) 0)),(49,VV.slice (.fa (7) 0 0) z1.toNat z1.toNat),(48,I z1),(47,I 0),(46,VV.slice (.own (5) 0) (3) (3)),(11,I 0),(45,I 0),(44,VV.bool true),(44,VV.bool (decide ((0:Int)<(↑(3):Int)))),(43,I 0),(42,I (↑(3):Int)),(41,VV.slice (.own (5) 0) (3) (3)),(10,VV.ptr (.own (6) 0)),(40,VV.slice (.own (5) 0) (3) (3)),(39,I (↑[D0,D1,D2].length:Int)),(38,VV.tl [D0,D1,D2].length 1 (pthG [D0,D1,D2])),(9,VV.ptr (.own (4) 0)),(37,I z1),(36,VV.tl ([D0,D1,D2].getD (Int.toNat (0:Int)) []).length 1 (dG ([D0,D1,D2].getD (Int.toNat (0:Int)) []))),(35,VV.tp [VV.tl ([D0,D1,D2].getD (Int.toNat (0:Int)) []).length 1 (dG ([D0,D1,D2].getD (Int.toNat (0:Int)) []))]),(34,VV.tl [D0,D1,D2].length 1 (pthG [D0,D1,D2])),(8,VV.ptr (.own (3) 0)),(33,VV.ptr (.own (2) 0)),(32,VV.agg (stD l::tsL t)),(31,VV.agg [VV.tl t.T.length 1 (dG t.T),I t.far,I t.least]),(30,VV.tl l.length 5 (stG l)),(26,VV.bool false),(26,VV.bool !okPaths [D0,D1,D2]),(29,VV.bool !okPaths [D0,D1,D2]),(28,VV.bool (okPaths [D0,D1,D2])),(27,VV.tl [D0,D1,D2].length 1 (pthG [D0,D1,D2])),(21,VV.bool false),(21,VV.bool !okAll l t),(25,VV.bool !okAll l t),(24,VV.bool (okAll l t)),(23,VV.agg [VV.tl t.T.length 1 (dG t.T),I t.far,I t.least]),(22,VV.tl l.length 5 (stG l)),(7,I 0),(6,VV.nils),(5,VV.ptr (.own (1) 0)),(4,VV.ptr (.own 0 0)),(0,stD l),(1,VV.agg (tsL t)),(2,pthD [D0,D1,D2])] (VH.mk 14 (nsPl3.zip (BPl3 D0.length M))) ((18,VV.nils)::dsPl.zip (VPl l t [D0,D1,D2] D0.length 3 0 VV.nils 0))/\∃ (M_1:Mde),∃ (gO:Nat->List VV),FitP 0 (hpn3_5 D0 M l) ((73,I 0)::(72,I (↑D0.length:Int))::(71,VV.slice (.fa 8 0 0) D0.length D0.length)::(18,VV.nils)::(17,VV.slice (.fa 8 0 0) D0.length D0.length)::(70,VV.slice (.fa 8 0 0) D0.length D0.length)::(69,VV.ptr (.own 5 (1)))::(68,VV.bool true)::(68,VV.bool (decide ((↑0:Int)+(1:Int)<(↑3:Int))))::(67,I ((↑0:Int)+(1:Int)))::(89,I ((↑0:Int)+(1:Int)))::(15,VV.sl (16) 1)::(88,VV.sl (16) 1)::(87,VV.sl (15) 1)::(86,VV.tl D0.length 1 (rowG l.length M 0))::(85,VV.nils)::(18,VV.tl D0.length 1 (rowG l.length M 0))::(18::dsPl).zip (VV.sl 14 D0.length::VPl l t [D0,D1,D2] D0.length 3 0 VV.nils D0.length)) (VH.mk 17 ((16::nsPl3).zip (VB.vec 1 gO 1 26::BPl3 D0.length M_1))) ((18,VV.nils)::dsPl.zip (VPl l t [D0,D1,D2] D0.length 3 1 (VV.sl 16 1) 0))/\∃ (M:Mde),∃ (gO_1:Nat->List VV),FitP 0 (VH.mk (19) ((16,VB.vec (1+1) (catG 1 gO (oneL 1 [VV.tl D0.length 1 (rowG l.length M_1 1)])) (1) 26)::(18,VB.vec 1 ((oneL 1 [VV.tl D0.length 1 (rowG l.length M_1 1)])) (1) 26)::(17,VB.gone)::(17::16::nsPl3).zip (VB.vec D0.length (rowG l.length M_1 1) 1 23::VB.vec 1 gO 1 26::BPl3 D0.length M_1))) ((73,I 0)::(72,I (↑D0.length:Int))::(71,VV.slice (.fa 9 0 0) D0.length D0.length)::(18,VV.nils)::(17,VV.slice (.fa 9 0 0) D0.length D0.length)::(70,VV.slice (.fa 9 0 0) D0.length D0.length)::(69,VV.ptr (.own 5 (2)))::(68,VV.bool true)::(68,VV.bool (decide ((↑1:Int)+(1:Int)<(↑3:Int))))::(67,I ((↑1:Int)+(1:Int)))::(89,I ((↑1:Int)+(1:Int)))::(15,VV.sl 16 (1+1))::(88,VV.sl 16 (1+1))::(87,VV.sl (18) 1)::(86,VV.tl D0.length 1 (rowG l.length M_1 1))::(85,VV.sl 16 1)::(18,VV.tl D0.length 1 (rowG l.length M_1 1))::(18::dsPl).zip (VV.sl 17 D0.length::VPl l t [D0,D1,D2] D0.length 3 1 (VV.sl 16 1) D0.length)) (VH.mk 19 ((16::nsPl3).zip (VB.vec 2 gO_1 1 26::BPl3 D0.length M))) ((18,VV.nils)::dsPl.zip (VPl l t [D0,D1,D2] D0.length 3 2 (VV.sl 16 2) 0))/\Q (.ret (.tup [VV.sl 16 (2+1),I 0])) (VH.mk (21) [(16,VB.vec (2+1) (catG 2 gO_1 (oneL 1 [VV.tl D0.length 1 (rowG l.length M 2)])) (1) 26),(20,VB.vec 1 ((oneL 1 [VV.tl D0.length 1 (rowG l.length M 2)])) (1) 26),(19,VB.gone),(19,VB.vec D0.length (rowG l.length M 2) 1 23),(16,VB.vec 2 gO_1 1 26),(5,VB.cells [VV.slice (.fa 7 0 0) D0.length D0.length,VV.slice (.fa 8 0 0) D0.length D0.length,VV.slice (.fa 9 0 0) D0.length D0.length] 76),(7,VB.fam [] (D0.length*6) (M 0) 80),(8,VB.fam [] (D0.length*6) (M 1) 80),(9,VB.fam [] (D0.length*6) (M 2) 80)])
 else False
 else False
 else False
 else False
 else False
 else False)):=by kernel_rfl
section
variable {l:List Stk} {t:Tst} {P:List (List Int)} {Y:Nat}
theorem cpr30 {M:Mde} (hY:Y<=4) (hl6:l.length<=6):LSound Try.prog true (.block 5 (.loop (loopB 5 (bodyOf Try.prog 17)))) (ntOf Try.prog 17) (fun lock tt h K=>FitP lock h tt ⟨14,nsPl3.zip (BPl3 Y M)⟩ ((18,.nils)::dsPl.zip (VPl l t P Y 3 0 .nils 0))/\K .normal ((18,.tl Y 1 (rowG l.length M 0))::(18::dsPl).zip (.sl 14 Y::VPl l t P Y 3 0 .nils Y)) ⟨15,(14,.gone)::(14::nsPl3).zip (.vec Y (rowG l.length M 0) 1 23::(BPl3 Y M))⟩):=by
 refine copy_row (n:=14) (ns:=nsPl3) (BL:=(BPl3 Y M)) rfl ?_ rfl
 refine loop_row hmix (noL_good (tab1 listT_ok)) (un:=10) (ds:=18::dsPl) (ns:=14::nsPl3) (nx:=15) (fun y:Nat=>.sl 14 y::VPl l t P Y 3 0 .nils y) (fun y=>.vec y (rowG l.length M 0) 1 23::(BPl3 Y M)) (fun y=>y<=Y) (fun y=>Y - y) (fun _ ex vs bs=>ex=.exit 5/\bs=.vec Y (rowG l.length M 0) 1 23::(BPl3 Y M)/\vs=.sl 14 Y::VPl l t P Y 3 0 .nils Y) noL_ok ?_ ?_
 ·rintro y h0
  refine cast (cp30_ev l t P Y y M _ _).symm ?_
  refine cond_d (fun hy=>cond_dk ⟨by omega,by omega⟩ (cond_dk (by omega) ⟨fun j=>M 0 (y*6+j),l.length,g6_row,rfl,hl6,cond_k (Nat.beq_refl _) (cond_k (roomC y (by omega)) (cond_r (by omega) ⟨y+1,by show y+1<=Y; omega,by dsimp only; omega,rfl,⟨⟨rfl,rfl,rfl,fun j hj=>cat_row hj⟩,fitBs_refl _⟩,fun _ _ _ h=>h⟩))⟩)) (fun hy=>?_)
  obtain rfl:y=Y:=by omega
  exact ⟨rfl,rfl,rfl⟩
 ·rintro lock tt h K ⟨hf,k1⟩
  refine ⟨0,hf,Nat.zero_le _,?_⟩
  rintro ex vs bs ⟨rfl,rfl,rfl⟩
  exact k1
theorem cpr31 {M:Mde} {gO:Nat->List VV} (hY:Y<=4) (hl6:l.length<=6):LSound Try.prog true (.block 5 (.loop (loopB 5 (bodyOf Try.prog 17)))) (ntOf Try.prog 17) (fun lock tt h K=>FitP lock h tt ⟨17,(16::nsPl3).zip (.vec 1 gO 1 26::BPl3 Y M)⟩ ((18,.nils)::dsPl.zip (VPl l t P Y 3 1 (.sl 16 1) 0))/\K .normal ((18,.tl Y 1 (rowG l.length M 1))::(18::dsPl).zip (.sl 17 Y::VPl l t P Y 3 1 (.sl 16 1) Y)) ⟨18,(17,.gone)::(17::(16::nsPl3)).zip (.vec Y (rowG l.length M 1) 1 23::(.vec 1 gO 1 26::BPl3 Y M))⟩):=by
 refine copy_row (n:=17) (ns:=(16::nsPl3)) (BL:=(.vec 1 gO 1 26::BPl3 Y M)) rfl ?_ rfl
 refine loop_row hmix (noL_good (tab1 listT_ok)) (un:=10) (ds:=18::dsPl) (ns:=17::(16::nsPl3)) (nx:=18) (fun y:Nat=>.sl 17 y::VPl l t P Y 3 1 (.sl 16 1) y) (fun y=>.vec y (rowG l.length M 1) 1 23::(.vec 1 gO 1 26::BPl3 Y M)) (fun y=>y<=Y) (fun y=>Y - y) (fun _ ex vs bs=>ex=.exit 5/\bs=.vec Y (rowG l.length M 1) 1 23::(.vec 1 gO 1 26::BPl3 Y M)/\vs=.sl 17 Y::VPl l t P Y 3 1 (.sl 16 1) Y) noL_ok ?_ ?_
 ·rintro y h0
  refine cast (cp31_ev l t P Y y M _ _ _).symm ?_
  refine cond_d (fun hy=>cond_dk ⟨by omega,by omega⟩ (cond_dk (by omega) ⟨fun j=>M 1 (y*6+j),l.length,g6_row,rfl,hl6,cond_k (Nat.beq_refl _) (cond_k (roomC y (by omega)) (cond_r (by omega) ⟨y+1,by show y+1<=Y; omega,by dsimp only; omega,rfl,⟨⟨rfl,rfl,rfl,fun j hj=>cat_row hj⟩,fitBs_refl _⟩,fun _ _ _ h=>h⟩))⟩)) (fun hy=>?_)
  obtain rfl:y=Y:=by omega
  exact ⟨rfl,rfl,rfl⟩
 ·rintro lock tt h K ⟨hf,k1⟩
  refine ⟨0,hf,Nat.zero_le _,?_⟩
  rintro ex vs bs ⟨rfl,rfl,rfl⟩
  exact k1
theorem cpr32 {M:Mde} {gO:Nat->List VV} (hY:Y<=4) (hl6:l.length<=6):LSound Try.prog true (.block 5 (.loop (loopB 5 (bodyOf Try.prog 17)))) (ntOf Try.prog 17) (fun lock tt h K=>FitP lock h tt ⟨19,(16::nsPl3).zip (.vec 2 gO 1 26::BPl3 Y M)⟩ ((18,.nils)::dsPl.zip (VPl l t P Y 3 2 (.sl 16 2) 0))/\K .normal ((18,.tl Y 1 (rowG l.length M 2))::(18::dsPl).zip (.sl 19 Y::VPl l t P Y 3 2 (.sl 16 2) Y)) ⟨20,(19,.gone)::(19::(16::nsPl3)).zip (.vec Y (rowG l.length M 2) 1 23::(.vec 2 gO 1 26::BPl3 Y M))⟩):=by
 refine copy_row (n:=19) (ns:=(16::nsPl3)) (BL:=(.vec 2 gO 1 26::BPl3 Y M)) rfl ?_ rfl
 refine loop_row hmix (noL_good (tab1 listT_ok)) (un:=10) (ds:=18::dsPl) (ns:=19::(16::nsPl3)) (nx:=20) (fun y:Nat=>.sl 19 y::VPl l t P Y 3 2 (.sl 16 2) y) (fun y=>.vec y (rowG l.length M 2) 1 23::(.vec 2 gO 1 26::BPl3 Y M)) (fun y=>y<=Y) (fun y=>Y - y) (fun _ ex vs bs=>ex=.exit 5/\bs=.vec Y (rowG l.length M 2) 1 23::(.vec 2 gO 1 26::BPl3 Y M)/\vs=.sl 19 Y::VPl l t P Y 3 2 (.sl 16 2) Y) noL_ok ?_ ?_
 ·rintro y h0
  refine cast (cp32_ev l t P Y y M _ _ _).symm ?_
  refine cond_d (fun hy=>cond_dk ⟨by omega,by omega⟩ (cond_dk (by omega) ⟨fun j=>M 2 (y*6+j),l.length,g6_row,rfl,hl6,cond_k (Nat.beq_refl _) (cond_k (roomC y (by omega)) (cond_r (by omega) ⟨y+1,by show y+1<=Y; omega,by dsimp only; omega,rfl,⟨⟨rfl,rfl,rfl,fun j hj=>cat_row hj⟩,fitBs_refl _⟩,fun _ _ _ h=>h⟩))⟩)) (fun hy=>?_)
  obtain rfl:y=Y:=by omega
  exact ⟨rfl,rfl,rfl⟩
 ·rintro lock tt h K ⟨hf,k1⟩
  refine ⟨0,hf,Nat.zero_le _,?_⟩
  rintro ex vs bs ⟨rfl,rfl,rfl⟩
  exact k1
theorem lCp3_ok (hY:Y<=4) (hl6:l.length<=6):LSound Try.prog true (.block 5 (.loop (loopB 5 (bodyOf Try.prog 17)))) (ntOf Try.prog 17) (lCp3 l t P Y):=by
 intro lock tt h K hK
 unfold lCp3 at hK
 split at hK
 ·obtain ⟨M,hf,k1⟩:=hK
  exact cpr30 hY hl6 lock tt h K ⟨hf,k1⟩
 ·obtain ⟨M,gO,hf,k1⟩:=hK
  exact cpr31 hY hl6 lock tt h K ⟨hf,k1⟩
 ·obtain ⟨M,gO,hf,k1⟩:=hK
  exact cpr32 hY hl6 lock tt h K ⟨hf,k1⟩
 ·exact hK.elim
end
theorem plp3 {l:List Stk} {t:Tst} {D0 D1 D2:List Int} (h1:okAll l t=true) (h2:okPaths [D0,D1,D2]=true) (cf:Cfg l t [D0,D1,D2] D0.length) (hpb:pthB [D0,D1,D2]):∃ r h',CallsV Try.prog 17 [stD l,.agg (tsL t),pthD [D0,D1,D2]] ⟨0,[]⟩ r h'/\PlnK l t [D0,D1,D2] D0.length r h':=by
 have hl6:=cf.hl.1
 have hY:=cf.Y4
 have hrm:roomB ((([D0,D1,D2].getD (Int.toNat 0) []).length:Int)).toNat 48=true:=roomY _ hY
 have htab:∀ f T,tabS [asR l t,casksR l t,apR [D0,D1,D2],findR3 l t [D0,D1,D2] D0.length D0.length,listT] f=some T->SpOk Try.prog f T:=tab_ok _ (fun x hx=>by
  simp only [List.mem_cons,List.not_mem_nil,or_false] at hx
  rcases hx with rfl | rfl | rfl | rfl | rfl
  ·exact asR_ok l t
  ·exact casksR_ok l t
  ·exact apR_ok _
  ·exact findR3_ok cf D0.length
  ·exact listT_ok)
 have hall:LoopsOk Try.prog 17 [(5,lCp3 l t [D0,D1,D2] D0.length)]:=fun x hx=>by
  simp only [List.mem_singleton] at hx
  subst hx
  exact ⟨by kernel_rfl,lCp3_ok hY hl6⟩
 obtain ⟨r,h',hk,hc⟩:=of_callN (callL_good hmix htab hall (un:=10) 20) (f:=17) (args:=[stD l,.agg (tsL t),pthD [D0,D1,D2]]) (h:=⟨0,[]⟩) (K:=PlnK l t [D0,D1,D2] D0.length) (by
  refine cast (pq3_ev l t D0 D1 D2 _).symm ⟨isD_l,⟨⟨rfl,rfl,fun _ _=>rfl⟩,⟨rfl,rfl⟩,⟨rfl,rfl⟩,trivial⟩,cond_i (fun h=>by rw [h1] at h; cases h) (fun _=>⟨⟨rfl,rfl,fun _ _=>rfl⟩,hpb,cond_i (fun h=>by rw [h2] at h; cases h) (fun _=>?_)⟩)⟩
  refine cond_dk ⟨by omega,rfl⟩ (cond_k hrm (cond_dk ⟨by omega,rfl⟩ (cond_k hrm (cond_dk ⟨by omega,rfl⟩ (cond_k hrm (⟨hc63 rfl,hl6,7,mostF l,fun _ _=>0,[],⟨rfl,rfl,rfl,rfl⟩,⟨rfl,Nat.le_refl _⟩,⟨rfl,rfl,rfl,rfl,rfl,rfl,rfl,rfl,rfl,rfl,rfl,rfl,rfl,rfl,trivial⟩,⟨by omega,rfl,rfl⟩,⟨Nat.le_refl _,(by show 7<2 ^ 3; decide),most_left cf.hl,lost_nil⟩,?_⟩))))))
  rintro b s ⟨p1,p2,p3,p4⟩
  refine cond_i (fun g=>?_) (fun g=>?_)
  ·have g:b=false:=by simpa using g
   subst g
   refine .inl ⟨?_,rfl⟩
   cases hx:planF l t [D0,D1,D2] D0.length D0.length 7 (mostF l) with
   | none=>exact hx
   | some x=>rw [hx] at p1; cases p1
  ·have g:b=true:=by simpa using g
   subst g
   obtain ⟨x,hx⟩:∃ x,planF l t [D0,D1,D2] D0.length D0.length 7 (mostF l)=some x:=by
    cases hx:planF l t [D0,D1,D2] D0.length D0.length 7 (mostF l) with
    | none=>rw [hx] at p1; cases p1
    | some x=>exact ⟨x,rfl⟩
   refine ⟨s.M,⟨⟨rfl,rfl,rfl,⟨rfl,rfl,rfl,fun _ _=>rfl⟩,⟨rfl,rfl,rfl,fun _ _=>rfl⟩,⟨rfl,rfl,rfl,fun _ _=>rfl⟩,trivial⟩,rfl,rfl,rfl,rfl,rfl,rfl,rfl,rfl,rfl,rfl,rfl,rfl,rfl,rfl,rfl,trivial⟩,s.M,_,⟨⟨rfl,rfl,VB.fit_refl _,VB.fit_refl _,VB.fit_refl _,VB.fit_refl _,VB.fit_refl _,trivial⟩,rfl,rfl,rfl,rfl,rfl,rfl,rfl,rfl,rfl,rfl,rfl,rfl,rfl,rfl,rfl,trivial⟩,s.M,_,⟨⟨rfl,rfl,VB.fit_refl _,VB.fit_refl _,VB.fit_refl _,VB.fit_refl _,VB.fit_refl _,trivial⟩,rfl,rfl,rfl,rfl,rfl,rfl,rfl,rfl,rfl,rfl,rfl,rfl,rfl,rfl,rfl,trivial⟩,.inr ⟨x,16,_,_,hx,rfl,rfl,fun i hi=>?_⟩⟩
   have hi:i<3:=hi
   match i,hi with
   | 0,_=>exact tl_weak rfl (fun y hy=>wk_ch (fun j hj=>p4 x hx 0 y j (by omega) rfl (by omega) hy))
   | 1,_=>exact tl_weak rfl (fun y hy=>wk_ch (fun j hj=>p4 x hx 1 y j (by omega) rfl (by omega) hy))
   | 2,_=>exact tl_weak rfl (fun y hy=>wk_ch (fun j hj=>p4 x hx 2 y j (by omega) rfl (by omega) hy))
   | _+3,hi=>exact absurd hi (by omega))
 exact ⟨r,h',hc,hk⟩
def BP4 (l:List Stk) (t:Tst) (P:List (List Int)) (Y:Nat) (M:Mde) (es:Lst):List VB:=[.cells (tsL t) 25,.cells [pthD P] 26,.cells (stD l::tsL t) 74,.cells [.ptr (.own 2 0)] 72,.cells [I Y] 3,.cells [sFa 7 Y,sFa 8 Y,sFa 9 Y,sFa 10 Y] 76,.cells [.slice (.own 5 0) 4 4] 75,.fam [] (Y*6) (M 0) 80,.fam [] (Y*6) (M 1) 80,.fam [] (Y*6) (M 2) 80,.fam [] (Y*6) (M 3) 80,
 .map kS .bool es,.cells [.mp 11] 77,.cells [.func 44 [] [.ptr (.own 4 0),.ptr (.own 12 0),.ptr (.own 1 0),.ptr (.own 14 0)]] 78,.cells [.func 40 [] [.ptr (.own 3 0),.ptr (.own 13 0),.ptr (.own 1 0),.ptr (.own 6 0)]] 88]
def nsB4:List Nat:=[0,1,2,3,4,5,6,7,8,9,10,11,12,13,14]
def findR4 (l:List Stk) (t:Tst) (P:List (List Int)) (Y k:Nat):FuncId × Spec1:=(44,fun lock args h K=>match args,h with
 | [.agg (.int .i64 y::.int .i64 S::ns),x1,x2,x3,x4],⟨nx,bs⟩=>∃ (S':Nat) (a:Nat->Int) (M:Mde) (es:Lst),(x1=.ptr (.own 4 0)/\x2=.ptr (.own 12 0)/\x3=.ptr (.own 1 0)/\x4=.ptr (.own 14 0))/\(lock=0/\15<=nx)/\atL nsB4 (BP4 l t P Y M es) ⟨nx,bs⟩/\(y=(Y:Int) - k/\S=S'/\ns=nL a)/\PreF l t P Y k S' a es /\
   ∀ (b:Bool) (s:St),PostF l t P Y k S' a M b s->K (.ret (.bool b)) ⟨nx,(7,.fam [] (Y*6) (s.M 0) 80)::(8,.fam [] (Y*6) (s.M 1) 80)::(9,.fam [] (Y*6) (s.M 2) 80)::(10,.fam [] (Y*6) (s.M 3) 80)::(11,.map kS .bool s.es)::bs⟩
 | _,_=>False)
def folR4 (l:List Stk) (t:Tst) (P:List (List Int)) (Y k:Nat):FuncId × Spec1:=(40,fun lock args h K=>match args,h with
 | [.agg (.int .i64 y::.int .i64 S::ns),.int .i64 o,.int .i64 d,x1,x2,x3,x4],⟨nx,bs⟩=>∃ (S' O:Nat) (a:Nat->Int) (M:Mde) (es:Lst),(x1=.ptr (.own 3 0)/\x2=.ptr (.own 13 0)/\x3=.ptr (.own 1 0)/\x4=.ptr (.own 6 0))/\(lock=0/\15<=nx)/\atL nsB4 (BP4 l t P Y M es) ⟨nx,bs⟩/\(y=(Y:Int) - (k+1:Nat)/\S=S'/\o=O/\ns=nL a)/\PreW l t P Y k O a es /\
   ∀ (b:Bool) (s:St),PostW l t P Y k O d a M b s->K (.ret (.bool b)) ⟨nx,(7,.fam [] (Y*6) (s.M 0) 80)::(8,.fam [] (Y*6) (s.M 1) 80)::(9,.fam [] (Y*6) (s.M 2) 80)::(10,.fam [] (Y*6) (s.M 3) 80)::(11,.map kS .bool s.es)::bs⟩
 | _,_=>False)
def slFo4 (y S own need:Int) (a:Nat->Int):Slots:=[(16,VV.func 74 [] [.ptr (.own 19 0),.ptr (.own 20 0)]),(15,VV.agg (nL a)),(14,VV.ptr (VA.own 15 2)),(13,.ptr (.own 2 0)),(10,.ptr (.own 18 0)),(9,.ptr (.own 17 0)),(8,.ptr (.own 16 0)),(7,.ptr (.own 15 0)),(0,VV.agg (I y::I S::nL a)),(1,I own),(2,I need),(3,.ptr (.own 3 0)),(4,.ptr (.own 13 0)),(5,.ptr (.own 1 0)),(6,.ptr (.own 6 0))]
def VFo4:List VV:=[.ptr (.own 22 0),.yld 21,.ptr (.own 19 0),.ptr (.own 20 0)]
def VFi4 (i:Int):List VV:=I i::VFo4
def nsFo4:List Nat:=[0,1,2,3,4,5,6,7,8,9,10,11,12,13,14,15,16,17,18,19,20,21,22]
noncomputable def BFo4 (l:List Stk) (t:Tst) (P:List (List Int)) (Y:Nat) (y S own need:Int) (a:Nat->Int) (M:Mde) (es:Lst) (n:Nat->Int):List VB:=BP4 l t P Y M es ++ [faS y S a,.cells [I own] 3,.cells [I need] 3,.cells [.bool false] 4,.cells [.ptr (.own 2 0)] 72,faN a,.loop true none (slFo4 y S own need a) 58 [17] asFo bdFo,.fam [] 6 n 80]
theorem ino4_ev (l:List Stk) (t:Tst) (P:List (List Int)) (Y:Nat) (y S own need i:Int) (a:Nat->Int) (M:Mde) (es:Lst) (n:Nat->Int) (X:VEx->List VV->List VB->Prop):codeE Try.prog (callN Try.prog noSpec noL 10 20) (fun _=>none) true 10 (ntOf Try.prog 74) 0 (loopB 2 (bodyOf Try.prog 74)) (dsI.zip (VFi4 i)) ⟨24,nsFo4.zip (BFo4 l t P Y y S own need a M es n)⟩ (obs 24 dsI nsFo4 X) =
 (bif decide (i ≥ (0:Int)) then
 bif decide ((0:Int)<=i/\i<(↑6:Int)) then
 bif decide (i.toNat*(1)<6) then
 bif decide ((0:Int)<=i/\i<(↑6:Int)) then
 bif decide (i.toNat*(1)<6) then
 bif decide (n (i.toNat*(1))=(fun (k:Nat)=>(ch a).getD k (0:Int)) (i.toNat*(1))) then
 bif decide ((0:Int)<=i/\i<(↑6:Int)) then
 bif decide (i.toNat*(1)+(1)<=6) then
 bif inK .i64 (i - (1:Int)) then
 X .normal [I (i - (1:Int)),VV.ptr (.own 22 0),VV.yld 21,VV.ptr (.own 19 0),VV.ptr (.own 20 0)] (BFo4 l t P Y y S own need a M es (setF n (i.toNat*(1)) [(0:Int)]))
 else False
 else False
 else False
 else X (.exit 2) [I i,VV.ptr (.own 22 0),VV.yld 21,VV.ptr (.own 19 0),VV.ptr (.own 20 0)] (BFo4 l t P Y y S own need a M es n)
 else False
 else False
 else False
 else False
 else X (.exit 2) [I i,VV.ptr (.own 22 0),VV.yld 21,VV.ptr (.own 19 0),VV.ptr (.own 20 0)] (BFo4 l t P Y y S own need a M es n)):=by kernel_rfl
noncomputable abbrev BQf4 (l:List Stk) (t:Tst) (P:List (List Int)) (Y:Nat) (y S own need:Int) (a:Nat->Int) (A0 A1 A2 A3:Nat->Int) (es:Lst) (b:Bool) (n:Nat->Int):List VB:=[.cells (tsL t) 25,.cells [pthD P] 26,.cells (stD l::tsL t) 74,.cells [.ptr (.own 2 0)] 72,.cells [I Y] 3,.cells [sFa 7 Y,sFa 8 Y,sFa 9 Y,sFa 10 Y] 76,.cells [.slice (.own 5 0) 4 4] 75,.fam [] (Y*6) A0 80,.fam [] (Y*6) A1 80,.fam [] (Y*6) A2 80,.fam [] (Y*6) A3 80,
 .map kS .bool es,.cells [.mp 11] 77,.cells [.func 44 [] [.ptr (.own 4 0),.ptr (.own 12 0),.ptr (.own 1 0),.ptr (.own 14 0)]] 78,.cells [.func 40 [] [.ptr (.own 3 0),.ptr (.own 13 0),.ptr (.own 1 0),.ptr (.own 6 0)]] 88] ++ [faS y S a,.cells [I own] 3,.cells [I need] 3,.cells [.bool b] 4,.cells [.ptr (.own 2 0)] 72,faN a,.loop (!b) (bif b then some .ret else none) (slFo4 y S own need a) 58 [17] asFo bdFo,.fam [] 6 n 80]
noncomputable def lIo4 (l:List Stk) (t:Tst) (P:List (List Int)) (Y:Nat) (y S own need:Int) (a:Nat->Int):LT:=fun lock tt h K=>
 ∃ M es n,FitP lock h tt ⟨24,nsFo4.zip (BFo4 l t P Y y S own need a M es n)⟩ (dsI.zip (VFi4 (l.length - 1)))/\l.length<=6/\∀ (k:Nat) (n':Nat->Int),scanC a l.length n=(k,n')->K .normal (dsI.zip (VFi4 (k - 1))) ⟨24,nsFo4.zip (BFo4 l t P Y y S own need a M es n')⟩
theorem fr4_ev (l:List Stk) (t:Tst) (D0 D1 D2 D3:List Int) (Y k:Nat) (M:Mde) (es:Lst) (y S need:Int) (O:Nat) (a n:Nat->Int) (X:VEx->List VV->List VB->Prop):codeE Try.prog (callN Try.prog (tabS [meetsR l t,lessT,findR4 l t [D0,D1,D2,D3] Y k]) noL 10 20) (tabB [(2,lIo4 l t [D0,D1,D2,D3] Y y S O need a)]) true 10 (ntOf Try.prog 74) 0 (loopB 0 (bodyOf Try.prog 74)) (dsC.zip VFo4) ⟨23,nsFo4.zip (BFo4 l t [D0,D1,D2,D3] Y y S O need a M es n)⟩ (obs 23 dsC nsFo4 X) =
 (let z1:=(IntKind.i64.wrap (↑(BitVec.ofInt IntKind.i64.bits ((↑O:Int).fdiv ((2:Int) ^ min ((0:Int)+(1:Int)+(1:Int)+(1:Int)).toNat IntKind.i64.bits)) &&& BitVec.ofInt IntKind.i64.bits (1:Int)).toNat:Int)=(1:Int));
 let z2:=[VV.ptr (.own 22 0),VV.yld 21,VV.ptr (.own 19 0),VV.ptr (.own 20 0)];
 let z3:=[n (0+0),n (0+1),n (0+2),n (0+3),n (0+4),n (0+5)];
 let z4:=(IntKind.i64.wrap (↑(BitVec.ofInt IntKind.i64.bits ((↑O:Int).fdiv ((2:Int) ^ min ((0:Int)+(1:Int)+(1:Int)).toNat IntKind.i64.bits)) &&& BitVec.ofInt IntKind.i64.bits (1:Int)).toNat:Int)=(1:Int));
 let z5:=((5,I ((↑l.length:Int) - (1:Int)))::(15,I ((↑l.length:Int) - (1:Int)))::(14,I (↑l.length:Int))::(13,VV.tl l.length 5 (stG l))::(12,VV.ptr (.own 2 0))::(11,VV.ptr (.own 2 0))::(10,VV.ptr (.own 2 0))::(9,VV.bool false)::(9,VV.bool !true)::(8,VV.bool true)::(7,VV.agg [I (n (0+0)),I (n (0+1)),I (n (0+2)),I (n (0+3)),I (n (0+4)),I (n (0+5))])::(6,VV.yld 21)::dsC.zip VFo4);
 let z6:=[I (setF (fun (_:Nat)=>(0:Int)) 0 z3 (0+0)),I (setF (fun (_:Nat)=>(0:Int)) 0 z3 (0+1)),I (setF (fun (_:Nat)=>(0:Int)) 0 z3 (0+2)),I (setF (fun (_:Nat)=>(0:Int)) 0 z3 (0+3)),I (setF (fun (_:Nat)=>(0:Int)) 0 z3 (0+4)),I (setF (fun (_:Nat)=>(0:Int)) 0 z3 (0+5))];
 let z7:=(VH.mk (24) ((21,VB.gone)::(23,VB.fam [] (6) (setF (fun (_:Nat)=>(0:Int)) 0 z3) 80)::(23,VB.fam [] (6) (fun (_:Nat)=>(0:Int)) 80)::nsFo4.zip (BFo4 l t [D0,D1,D2,D3] Y y S (↑O:Int) need a M es n)));
 let z8:=(IntKind.i64.wrap (↑(BitVec.ofInt IntKind.i64.bits ((↑O:Int).fdiv ((2:Int) ^ min ((0:Int)+(1:Int)).toNat IntKind.i64.bits)) &&& BitVec.ofInt IntKind.i64.bits (1:Int)).toNat:Int)=(1:Int));
 let z9:=(fun (k:Nat)=>(ch a).getD k (0:Int));
 (∃ (n_1:Nat->Int),isD z7 4 (VV.ptr (.own 2 0)) (VV.tp (stD l::tsL t))/\z6=nL n_1/\(conB l t n_1/\(0:Int)<=y/\y<=(1000:Int))/\bif !meetsF l t n_1 y need then
 bif inK .i64 ((↑l.length:Int) - (1:Int)) then
 ∃ (M_1:Mde),∃ (es_1:Lst),∃ (n_2:Nat->Int),FitP 0 (VH.mk (24) ((21,VB.loop true none (slFo4 y S (↑O:Int) need a) 58 [17] asFo bdFo)::(21,VB.gone)::(23,VB.fam [] (6) (setF (fun (_:Nat)=>(0:Int)) 0 z3) 80)::(23,VB.fam [] (6) (fun (_:Nat)=>(0:Int)) 80)::nsFo4.zip (BFo4 l t [D0,D1,D2,D3] Y y S (↑O:Int) need a M es n))) z5 (VH.mk 24 (nsFo4.zip (BFo4 l t [D0,D1,D2,D3] Y y S (↑O:Int) need a M_1 es_1 n_2))) (dsI.zip (VFi4 ((↑l.length:Int) - (1:Int))))/\l.length<=6/\∀ (k:Nat) (n':Nat->Int),scanC a l.length n_2=(k,n')->bif decide ((↑k:Int) - (1:Int)<(0:Int)) then
 X .ret z2 (BFo4 l t [D0,D1,D2,D3] Y y S O need a M_1 es_1 n')
 else bif decide ((0:Int)<=(↑k:Int) - (1:Int)/\(↑k:Int) - (1:Int)<(↑6:Int)) then
 bif decide (((↑k:Int) - (1:Int)).toNat*(1)<6) then
 bif inK .i64 (n' (((↑k:Int) - (1:Int)).toNat*(1))+(1:Int)) then
 bif decide ((0:Int)<=(↑k:Int) - (1:Int)/\(↑k:Int) - (1:Int)<(↑6:Int)) then
 bif decide (((↑k:Int) - (1:Int)).toNat*(1)+(1)<=6) then
 X .normal z2 (BFo4 l t [D0,D1,D2,D3] Y y S O need a M_1 es_1 (setF n' (((↑k:Int) - (1:Int)).toNat*(1)) [n' (((↑k:Int) - (1:Int)).toNat*(1))+(1:Int)]))
 else False
 else False
 else False
 else False
 else False
 else False
 else bif inK .i64 (y+(1:Int)) then
 ∃ (a_1:Nat->Int),∃ (b:Nat->Int),[I (z9 (0+0)),I (z9 (0+1)),I (z9 (0+2)),I (z9 (0+3)),I (z9 (0+4)),I (z9 (0+5))]=nL a_1/\z6=nL b/\bdL a_1 b/\∃ (S':Nat),∃ (a_2:Nat->Int),∃ (M_1:Mde),∃ (es_1:Lst),(VV.ptr (.own 4 0)=VV.ptr (.own 4 0)/\VV.ptr (.own 12 0)=VV.ptr (.own 12 0)/\VV.ptr (.own 1 0)=VV.ptr (.own 1 0)/\VV.ptr (.own 14 0)=VV.ptr (.own 14 0))/\(0=0/\15<=24)/\atL nsB4 (BP4 l t [D0,D1,D2,D3] Y M_1 es_1) z7/\(y+(1:Int)=(↑Y:Int) - (↑k:Int)/\(↑O:Int)=(↑S':Int)/\[I (lsF a_1 b 6 0),I (lsF a_1 b 6 1),I (lsF a_1 b 6 2),I (lsF a_1 b 6 3),I (lsF a_1 b 6 4),I (lsF a_1 b 6 5)]=nL a_2)/\PreF l t [D0,D1,D2,D3] Y k S' a_2 es_1/\∀ (b:Bool) (s:St),PostF l t [D0,D1,D2,D3] Y k S' a_2 M_1 b s->bif !b then
 bif inK .i64 ((↑l.length:Int) - (1:Int)) then
 ∃ (M_2:Mde),∃ (es_2:Lst),∃ (n_2:Nat->Int),FitP 0 (VH.mk (24) ((21,VB.loop true none (slFo4 y S (↑O:Int) need a) 58 [17] asFo bdFo)::(7,VB.fam [] (Y*6) (s.M 0) 80)::(8,VB.fam [] (Y*6) (s.M 1) 80)::(9,VB.fam [] (Y*6) (s.M 2) 80)::(10,VB.fam [] (Y*6) (s.M 3) 80)::(11,VB.map kS PK.bool s.es)::(21,VB.gone)::(23,VB.fam [] (6) (setF (fun (_:Nat)=>(0:Int)) 0 z3) 80)::(23,VB.fam [] (6) (fun (_:Nat)=>(0:Int)) 80)::nsFo4.zip (BFo4 l t [D0,D1,D2,D3] Y y S (↑O:Int) need a M es n))) z5 (VH.mk 24 (nsFo4.zip (BFo4 l t [D0,D1,D2,D3] Y y S (↑O:Int) need a M_2 es_2 n_2))) (dsI.zip (VFi4 ((↑l.length:Int) - (1:Int))))/\l.length<=6/\∀ (k:Nat) (n':Nat->Int),scanC a l.length n_2=(k,n')->bif decide ((↑k:Int) - (1:Int)<(0:Int)) then
 X .ret z2 (BFo4 l t [D0,D1,D2,D3] Y y S O need a M_2 es_2 n')
 else bif decide ((0:Int)<=(↑k:Int) - (1:Int)/\(↑k:Int) - (1:Int)<(↑6:Int)) then
 bif decide (((↑k:Int) - (1:Int)).toNat*(1)<6) then
 bif inK .i64 (n' (((↑k:Int) - (1:Int)).toNat*(1))+(1:Int)) then
 bif decide ((0:Int)<=(↑k:Int) - (1:Int)/\(↑k:Int) - (1:Int)<(↑6:Int)) then
 bif decide (((↑k:Int) - (1:Int)).toNat*(1)+(1)<=6) then
 X .normal z2 (BFo4 l t [D0,D1,D2,D3] Y y S O need a M_2 es_2 (setF n' (((↑k:Int) - (1:Int)).toNat*(1)) [n' (((↑k:Int) - (1:Int)).toNat*(1))+(1:Int)]))
 else False
 else False
 else False
 else False
 else False
 else False
 else bif decide (IntKind.i64.wrap (↑(BitVec.ofInt IntKind.i64.bits ((↑O:Int).fdiv ((2:Int) ^ min (Int.toNat (0:Int)) IntKind.i64.bits)) &&& BitVec.ofInt IntKind.i64.bits (1:Int)).toNat:Int)=(1:Int)) then
 bif decide ((0:Int)<=y/\y<(↑Y:Int)) then
 bif decide (0+y.toNat*(6)+(6)<=Y*6) then
 bif decide z8 then
 bif decide ((0:Int)<=y/\y<(↑Y:Int)) then
 bif decide (0+y.toNat*(6)+(6)<=Y*6) then
 bif decide z4 then
 bif decide ((0:Int)<=y/\y<(↑Y:Int)) then
 bif decide (0+y.toNat*(6)+(6)<=Y*6) then
 bif decide z1 then
 bif decide ((0:Int)<=y/\y<(↑Y:Int)) then
 bif decide (0+y.toNat*(6)+(6)<=Y*6) then
 X .ret z2 (BQf4 l t [D0,D1,D2,D3] Y y S O need a (s6 s 0 y n) (s6 s 1 y n) (s6 s 2 y n) (s6 s 3 y n) s.es true n)
 else False
 else False
 else X .ret z2 (BQf4 l t [D0,D1,D2,D3] Y y S O need a (s6 s 0 y n) (s6 s 1 y n) (s6 s 2 y n) (s.M 3) s.es true n)
 else False
 else False
 else bif decide z1 then
 bif decide ((0:Int)<=y/\y<(↑Y:Int)) then
 bif decide (0+y.toNat*(6)+(6)<=Y*6) then
 X .ret z2 (BQf4 l t [D0,D1,D2,D3] Y y S O need a (s6 s 0 y n) (s6 s 1 y n) (s.M 2) (s6 s 3 y n) s.es true n)
 else False
 else False
 else X .ret z2 (BQf4 l t [D0,D1,D2,D3] Y y S O need a (s6 s 0 y n) (s6 s 1 y n) (s.M 2) (s.M 3) s.es true n)
 else False
 else False
 else bif decide z4 then
 bif decide ((0:Int)<=y/\y<(↑Y:Int)) then
 bif decide (0+y.toNat*(6)+(6)<=Y*6) then
 bif decide z1 then
 bif decide ((0:Int)<=y/\y<(↑Y:Int)) then
 bif decide (0+y.toNat*(6)+(6)<=Y*6) then
 X .ret z2 (BQf4 l t [D0,D1,D2,D3] Y y S O need a (s6 s 0 y n) (s.M 1) (s6 s 2 y n) (s6 s 3 y n) s.es true n)
 else False
 else False
 else X .ret z2 (BQf4 l t [D0,D1,D2,D3] Y y S O need a (s6 s 0 y n) (s.M 1) (s6 s 2 y n) (s.M 3) s.es true n)
 else False
 else False
 else bif decide z1 then
 bif decide ((0:Int)<=y/\y<(↑Y:Int)) then
 bif decide (0+y.toNat*(6)+(6)<=Y*6) then
 X .ret z2 (BQf4 l t [D0,D1,D2,D3] Y y S O need a (s6 s 0 y n) (s.M 1) (s.M 2) (s6 s 3 y n) s.es true n)
 else False
 else False
 else X .ret z2 (BQf4 l t [D0,D1,D2,D3] Y y S O need a (s6 s 0 y n) (s.M 1) (s.M 2) (s.M 3) s.es true n)
 else False
 else False
 else bif decide z8 then
 bif decide ((0:Int)<=y/\y<(↑Y:Int)) then
 bif decide (0+y.toNat*(6)+(6)<=Y*6) then
 bif decide z4 then
 bif decide ((0:Int)<=y/\y<(↑Y:Int)) then
 bif decide (0+y.toNat*(6)+(6)<=Y*6) then
 bif decide z1 then
 bif decide ((0:Int)<=y/\y<(↑Y:Int)) then
 bif decide (0+y.toNat*(6)+(6)<=Y*6) then
 X .ret z2 (BQf4 l t [D0,D1,D2,D3] Y y S O need a (s.M 0) (s6 s 1 y n) (s6 s 2 y n) (s6 s 3 y n) s.es true n)
 else False
 else False
 else X .ret z2 (BQf4 l t [D0,D1,D2,D3] Y y S O need a (s.M 0) (s6 s 1 y n) (s6 s 2 y n) (s.M 3) s.es true n)
 else False
 else False
 else bif decide z1 then
 bif decide ((0:Int)<=y/\y<(↑Y:Int)) then
 bif decide (0+y.toNat*(6)+(6)<=Y*6) then
 X .ret z2 (BQf4 l t [D0,D1,D2,D3] Y y S O need a (s.M 0) (s6 s 1 y n) (s.M 2) (s6 s 3 y n) s.es true n)
 else False
 else False
 else X .ret z2 (BQf4 l t [D0,D1,D2,D3] Y y S O need a (s.M 0) (s6 s 1 y n) (s.M 2) (s.M 3) s.es true n)
 else False
 else False
 else bif decide z4 then
 bif decide ((0:Int)<=y/\y<(↑Y:Int)) then
 bif decide (0+y.toNat*(6)+(6)<=Y*6) then
 bif decide z1 then
 bif decide ((0:Int)<=y/\y<(↑Y:Int)) then
 bif decide (0+y.toNat*(6)+(6)<=Y*6) then
 X .ret z2 (BQf4 l t [D0,D1,D2,D3] Y y S O need a (s.M 0) (s.M 1) (s6 s 2 y n) (s6 s 3 y n) s.es true n)
 else False
 else False
 else X .ret z2 (BQf4 l t [D0,D1,D2,D3] Y y S O need a (s.M 0) (s.M 1) (s6 s 2 y n) (s.M 3) s.es true n)
 else False
 else False
 else bif decide z1 then
 bif decide ((0:Int)<=y/\y<(↑Y:Int)) then
 bif decide (0+y.toNat*(6)+(6)<=Y*6) then
 X .ret z2 (BQf4 l t [D0,D1,D2,D3] Y y S O need a (s.M 0) (s.M 1) (s.M 2) (s6 s 3 y n) s.es true n)
 else False
 else False
 else X .ret z2 (BQf4 l t [D0,D1,D2,D3] Y y S O need a (s.M 0) (s.M 1) (s.M 2) (s.M 3) s.es true n)
 else False)):=by kernel_rfl
noncomputable def BFoT4 (l:List Stk) (t:Tst) (P:List (List Int)) (Y:Nat) (y S own need:Int) (a:Nat->Int) (M:Mde) (es:Lst) (n:Nat->Int):List VB:=BP4 l t P Y M es ++ [faS y S a,.cells [I own] 3,.cells [I need] 3,.cells [.bool true] 4,.cells [.ptr (.own 2 0)] 72,faN a,.loop false (some .ret) (slFo4 y S own need a) 58 [17] asFo bdFo,.fam [] 6 n 80]
noncomputable def lFo4 (l:List Stk) (t:Tst) (P:List (List Int)) (Y k:Nat) (y S d:Int) (O:Nat) (a:Nat->Int):LT:=fun lock tt h K=>
 ∃ M es,FitP lock h tt ⟨23,nsFo4.zip (BFo4 l t P Y y S O d a M es fun _=>0)⟩ (dsC.zip VFo4)/\(y=(Y:Int) - (k+1:Nat)/\Cfg l t P Y/\PreW l t P Y k O a es)/\(∀ s n',PostW l t P Y k O d a M false s->K .ret (dsC.zip VFo4) ⟨23,nsFo4.zip (BFo4 l t P Y y S O d a s.M s.es n')⟩) /\
  ∀ s n',PostW l t P Y k O d a M true s->K .ret (dsC.zip VFo4) ⟨23,nsFo4.zip (BFoT4 l t P Y y S O d a s.M s.es n')⟩
theorem fob4_ev (l:List Stk) (t:Tst) (D0 D1 D2 D3:List Int) (Y k:Nat) (M:Mde) (es:Lst) (y S d:Int) (O:Nat) (a:Nat->Int) (Q:VRes->VH->Prop):callN Try.prog noSpec (atF 74 [(0,lFo4 l t [D0,D1,D2,D3] Y k y S d O a)]) 10 20 0 (.fn 40) [.agg (I y::I S::nL a),I O,I d,.ptr (.own 3 0),.ptr (.own 13 0),.ptr (.own 1 0),.ptr (.own 6 0)] ⟨15,nsB4.zip (BP4 l t [D0,D1,D2,D3] Y M es)⟩ (fun r h=>Q r h) =
 (∃ (M_1:Mde),∃ (es_1:Lst),FitP 0 (VH.mk (23) ((22,VB.fam [] (6) (fun (_:Nat)=>(0:Int)) 80)::(21,VB.loop true none [(16,VV.func 74 [] [VV.ptr (.own (19) 0),VV.ptr (.own (20) 0)]),(15,VV.agg [I ((f6 a) (0+0)),I ((f6 a) (0+1)),I ((f6 a) (0+2)),I ((f6 a) (0+3)),I ((f6 a) (0+4)),I ((f6 a) (0+5))]),(14,VV.ptr (.own (15) (2))),(13,VV.ptr (.own 2 0)),(10,VV.ptr (.own (18) 0)),(9,VV.ptr (.own (17) 0)),(8,VV.ptr (.own (16) 0)),(7,VV.ptr (.own (15) 0)),(0,VV.agg (I y::I S::nL a)),(1,I (↑O:Int)),(2,I d),(3,VV.ptr (.own 3 0)),(4,VV.ptr (.own 13 0)),(5,VV.ptr (.own 1 0)),(6,VV.ptr (.own 6 0))] 58 [17] asFo bdFo)::(20,VB.fam [] (6) (fun (k:Nat)=>[(f6 a) (0+0),(f6 a) (0+1),(f6 a) (0+2),(f6 a) (0+3),(f6 a) (0+4),(f6 a) (0+5)].getD k (0:Int)) 80)::(19,VB.cells [VV.ptr (.own 2 0)] 72)::(18,VB.cells [VV.bool false] 4)::(17,VB.cells [I d] 3)::(16,VB.cells [I (↑O:Int)] 3)::(15,VB.fam [I y,I S] (6) (f6 a) 82)::nsB4.zip (BP4 l t [D0,D1,D2,D3] Y M es))) [(4,VV.ptr (.own (22) 0)),(0,VV.yld (21)),(1,VV.ptr (.own (19) 0)),(2,VV.ptr (.own (20) 0))] (VH.mk 23 (nsFo4.zip (BFo4 l t [D0,D1,D2,D3] Y y S (↑O:Int) d a M_1 es_1 fun (_:Nat)=>(0:Int)))) (dsC.zip VFo4)/\(y=(↑Y:Int) - (↑(k+1):Int)/\Cfg l t [D0,D1,D2,D3] Y/\PreW l t [D0,D1,D2,D3] Y k O a es_1)/\(∀ (s:St) (n':Nat->Int),PostW l t [D0,D1,D2,D3] Y k O d a M_1 false s->Q (.ret (.bool false)) (VH.mk 23 [(18,VB.cells [VV.bool false] 4),(21,VB.gone),(0,VB.cells [VV.tl t.T.length 1 (dG t.T),I t.far,I t.least] 25),(1,VB.cells [VV.tl [D0,D1,D2,D3].length 1 (pthG [D0,D1,D2,D3])] 26),(2,VB.cells (stD l::tsL t) 74),(3,VB.cells [VV.ptr (.own 2 0)] 72),(4,VB.cells [I (↑Y:Int)] 3),(5,VB.cells [sFa 7 Y,sFa 8 Y,sFa 9 Y,sFa 10 Y] 76),(6,VB.cells [VV.slice (.own 5 0) 4 4] 75),(7,VB.fam [] (Y*6) (s.M 0) 80),(8,VB.fam [] (Y*6) (s.M 1) 80),(9,VB.fam [] (Y*6) (s.M 2) 80),(10,VB.fam [] (Y*6) (s.M 3) 80),(11,VB.map kS PK.bool s.es),(12,VB.cells [VV.mp 11] 77),(13,VB.cells [VV.func 44 [] [VV.ptr (.own 4 0),VV.ptr (.own 12 0),VV.ptr (.own 1 0),VV.ptr (.own 14 0)]] 78),(14,VB.cells [VV.func 40 [] [VV.ptr (.own 3 0),VV.ptr (.own 13 0),VV.ptr (.own 1 0),VV.ptr (.own 6 0)]] 88),(15,VB.fam [I y,I S] 6 (fun (k:Nat)=>(ch a).getD k (0:Int)) 82),(16,VB.cells [I (↑O:Int)] 3),(17,VB.cells [I d] 3),(18,VB.cells [VV.bool false] 4),(19,VB.cells [VV.ptr (.own 2 0)] 72),(20,VB.fam [] 6 (fun (k:Nat)=>(ch a).getD k (0:Int)) 80),(21,VB.loop true none (slFo4 y S (↑O:Int) d a) 58 [17] asFo bdFo),(22,VB.fam [] 6 n' 80)]))/\∀ (s:St) (n':Nat->Int),PostW l t [D0,D1,D2,D3] Y k O d a M_1 true s->Q (.ret (.bool true)) (VH.mk 23 [(21,VB.gone),(0,VB.cells [VV.tl t.T.length 1 (dG t.T),I t.far,I t.least] 25),(1,VB.cells [VV.tl [D0,D1,D2,D3].length 1 (pthG [D0,D1,D2,D3])] 26),(2,VB.cells (stD l::tsL t) 74),(3,VB.cells [VV.ptr (.own 2 0)] 72),(4,VB.cells [I (↑Y:Int)] 3),(5,VB.cells [sFa 7 Y,sFa 8 Y,sFa 9 Y,sFa 10 Y] 76),(6,VB.cells [VV.slice (.own 5 0) 4 4] 75),(7,VB.fam [] (Y*6) (s.M 0) 80),(8,VB.fam [] (Y*6) (s.M 1) 80),(9,VB.fam [] (Y*6) (s.M 2) 80),(10,VB.fam [] (Y*6) (s.M 3) 80),(11,VB.map kS PK.bool s.es),(12,VB.cells [VV.mp 11] 77),(13,VB.cells [VV.func 44 [] [VV.ptr (.own 4 0),VV.ptr (.own 12 0),VV.ptr (.own 1 0),VV.ptr (.own 14 0)]] 78),(14,VB.cells [VV.func 40 [] [VV.ptr (.own 3 0),VV.ptr (.own 13 0),VV.ptr (.own 1 0),VV.ptr (.own 6 0)]] 88),(15,VB.fam [I y,I S] 6 (fun (k:Nat)=>(ch a).getD k (0:Int)) 82),(16,VB.cells [I (↑O:Int)] 3),(17,VB.cells [I d] 3),(18,VB.cells [VV.bool true] 4),(19,VB.cells [VV.ptr (.own 2 0)] 72),(20,VB.fam [] 6 (fun (k:Nat)=>(ch a).getD k (0:Int)) 80),(21,VB.loop false (some VEx.ret) (slFo4 y S (↑O:Int) d a) 58 [17] asFo bdFo),(22,VB.fam [] 6 n' 80)])):=by kernel_rfl
def dsF4:List Nat:=[7,6,5,0,1,2,3,4]
def VF4 (y S:Int) (a:Nat->Int) (r:Int):List VV:=[I r,.bool false,.ptr (.own 15 0),.agg (I y::I S::nL a),.ptr (.own 4 0),.ptr (.own 12 0),.ptr (.own 1 0),.ptr (.own 14 0)]
def nsF4:List Nat:=[0,1,2,3,4,5,6,7,8,9,10,11,12,13,14,15]
def BF4 (l:List Stk) (t:Tst) (P:List (List Int)) (Y:Nat) (y S:Int) (a:Nat->Int) (M:Mde) (es:Lst):List VB:=BP4 l t P Y M es ++ [faS y S a]
def dsG4:List Nat:=[25,24,23,9,8] ++ dsF4
def VG4 (P:List (List Int)) (y S:Int) (a:Nat->Int) (r i d o:Int):List VV:=[I i,I P.length,pthD P,I d,I o] ++ VF4 y S a r
theorem gi4_ev (l:List Stk) (t:Tst) (P:List (List Int)) (Y:Nat) (M:Mde) (es:Lst) (y S i d:Int) (o r:Nat) (a:Nat->Int) (X:VEx->List VV->List VB->Prop):codeE Try.prog (callN Try.prog noSpec noL 10 20) (fun _=>none) true 10 (ntOf Try.prog 44) 0 (loopB 2 (bodyOf Try.prog 44)) (dsG4.zip (VG4 P y S a r i d o)) ⟨16,nsF4.zip (BF4 l t P Y y S a M es)⟩ (obs 16 dsG4 nsF4 X) =
 (let z1:=[VB.cells [VV.tl t.T.length 1 (dG t.T),I t.far,I t.least] 25,VB.cells [VV.tl P.length 1 (pthG P)] 26,VB.cells (stD l::tsL t) 74,VB.cells [VV.ptr (.own 2 0)] 72,VB.cells [I (↑Y:Int)] 3,VB.cells [sFa 7 Y,sFa 8 Y,sFa 9 Y,sFa 10 Y] 76,VB.cells [VV.slice (.own 5 0) 4 4] 75,VB.fam [] (Y*6) (M 0) 80,VB.fam [] (Y*6) (M 1) 80,VB.fam [] (Y*6) (M 2) 80,VB.fam [] (Y*6) (M 3) 80,VB.map kS PK.bool es,VB.cells [VV.mp 11] 77,VB.cells [VV.func 44 [] [VV.ptr (.own 4 0),VV.ptr (.own 12 0),VV.ptr (.own 1 0),VV.ptr (.own 14 0)]] 78,VB.cells [VV.func 40 [] [VV.ptr (.own 3 0),VV.ptr (.own 13 0),VV.ptr (.own 1 0),VV.ptr (.own 6 0)]] 88,VB.fam [I y,I S] 6 (fun (k:Nat)=>(ch a).getD k (0:Int)) 82];
 let z2:=[I (i+(1:Int)),I (↑P.length:Int),VV.tl P.length 1 (pthG P),I ((P.getD i.toNat []).getD y.toNat (0:Int)),I (IntKind.i64.wrap (↑(BitVec.ofInt IntKind.i64.bits (↑o:Int) ||| BitVec.ofInt IntKind.i64.bits ((1:Int)*(2:Int) ^ min i.toNat IntKind.i64.bits)).toNat:Int)),I (↑r:Int),VV.bool false,VV.ptr (.own 15 0),VV.agg [I y,I S,I (a 0),I (a 1),I (a 2),I (a 3),I (a 4),I (a 5)],VV.ptr (.own 4 0),VV.ptr (.own 12 0),VV.ptr (.own 1 0),VV.ptr (.own 14 0)];
 let z3:=[I (i+(1:Int)),I (↑P.length:Int),VV.tl P.length 1 (pthG P),I d,I (↑o:Int),I (↑r:Int),VV.bool false,VV.ptr (.own 15 0),VV.agg [I y,I S,I (a 0),I (a 1),I (a 2),I (a 3),I (a 4),I (a 5)],VV.ptr (.own 4 0),VV.ptr (.own 12 0),VV.ptr (.own 1 0),VV.ptr (.own 14 0)];
 (bif decide (i<(↑P.length:Int)) then
 bif decide ((0:Int)<=i/\i<(↑P.length:Int)) then
 bif decide (i<(0:Int)) then
 False
 else bif decide (IntKind.i64.wrap (↑(BitVec.ofInt IntKind.i64.bits ((↑r:Int).fdiv ((2:Int) ^ min i.toNat IntKind.i64.bits)) &&& BitVec.ofInt IntKind.i64.bits (1:Int)).toNat:Int)=(1:Int)) then
 bif decide (d<(0:Int)) then
 bif decide (i<(0:Int)) then
 False
 else bif inK .i64 ((1:Int)*(2:Int) ^ min i.toNat IntKind.i64.bits) then
 bif decide ((0:Int)<=y/\y<(↑(P.getD i.toNat []).length:Int)) then
 bif inK .i64 (i+(1:Int)) then
 X .normal z2 z1
 else False
 else False
 else False
 else bif decide ((0:Int)<=y/\y<(↑(P.getD i.toNat []).length:Int)) then
 bif decide ((P.getD i.toNat []).getD y.toNat (0:Int)=d) then
 bif decide (i<(0:Int)) then
 False
 else bif inK .i64 ((1:Int)*(2:Int) ^ min i.toNat IntKind.i64.bits) then
 bif decide ((0:Int)<=y/\y<(↑(P.getD i.toNat []).length:Int)) then
 bif inK .i64 (i+(1:Int)) then
 X .normal z2 z1
 else False
 else False
 else False
 else bif inK .i64 (i+(1:Int)) then
 X .normal z3 z1
 else False
 else False
 else bif inK .i64 (i+(1:Int)) then
 X .normal z3 z1
 else False
 else False
 else X (.exit 2) [I i,I (↑P.length:Int),VV.tl P.length 1 (pthG P),I d,I (↑o:Int),I (↑r:Int),VV.bool false,VV.ptr (.own 15 0),VV.agg [I y,I S,I (a 0),I (a 1),I (a 2),I (a 3),I (a 4),I (a 5)],VV.ptr (.own 4 0),VV.ptr (.own 12 0),VV.ptr (.own 1 0),VV.ptr (.own 14 0)] z1)):=by kernel_rfl
def lG4 (l:List Stk) (t:Tst) (P:List (List Int)) (Y k:Nat) (y S:Int) (a:Nat->Int) (r:Nat):LT:=fun lock tt h K=>
 ∃ M es,FitP lock h tt ⟨16,nsF4.zip (BF4 l t P Y y S a M es)⟩ (dsG4.zip (VG4 P y S a r 0 (-1) 0))/\(y=((Y - (k+1):Nat):Int)/\k+1<=Y/\Cfg l t P Y/\r<16)/\∀ o d,grpF P (Y - (k+1)) r P.length=(o,d)->K .normal (dsG4.zip (VG4 P y S a r P.length d o)) ⟨16,nsF4.zip (BF4 l t P Y y S a M es)⟩
theorem gm4_ev (l:List Stk) (t:Tst) (D0 D1 D2 D3:List Int) (Y k:Nat) (M:Mde) (es:Lst) (y:Int) (S r:Nat) (a:Nat->Int) (X:VEx->List VV->List VB->Prop):codeE Try.prog (callN Try.prog (tabS [folR4 l t [D0,D1,D2,D3] Y k]) noL 10 20) (tabB [(2,lG4 l t [D0,D1,D2,D3] Y k y S a r)]) true 10 (ntOf Try.prog 44) 0 (loopB 0 (bodyOf Try.prog 44)) (dsF4.zip (VF4 y S a r)) ⟨16,nsF4.zip (BF4 l t [D0,D1,D2,D3] Y y S a M es)⟩ (obs 16 dsF4 nsF4 X) =
 (let z1:=(fun (k:Nat)=>(ch a).getD k (0:Int));
 let z2:=[I (↑r:Int),VV.bool false,VV.ptr (.own 15 0),VV.agg [I y,I (↑S:Int),I (a 0),I (a 1),I (a 2),I (a 3),I (a 4),I (a 5)],VV.ptr (.own 4 0),VV.ptr (.own 12 0),VV.ptr (.own 1 0),VV.ptr (.own 14 0)];
 let z3:=[VV.func 44 [] [VV.ptr (.own 4 0),VV.ptr (.own 12 0),VV.ptr (.own 1 0),VV.ptr (.own 14 0)]];
 let z4:=[VV.func 40 [] [VV.ptr (.own 3 0),VV.ptr (.own 13 0),VV.ptr (.own 1 0),VV.ptr (.own 6 0)]];
 (bif decide ((↑r:Int) > (0:Int)) then
 ∃ (M_1:Mde),∃ (es_1:Lst),FitP 0 (VH.mk 16 (nsF4.zip (BF4 l t [D0,D1,D2,D3] Y y (↑S:Int) a M es))) ((25,I 0)::(24,I (↑[D0,D1,D2,D3].length:Int))::(23,VV.tl [D0,D1,D2,D3].length 1 (pthG [D0,D1,D2,D3]))::(9,I (-1))::(8,I 0)::(22,VV.bool true)::(22,VV.bool (decide ((↑r:Int) > (0:Int))))::(21,I (↑r:Int))::dsF4.zip (VF4 y (↑S:Int) a (↑r:Int))) (VH.mk 16 (nsF4.zip (BF4 l t [D0,D1,D2,D3] Y y (↑S:Int) a M_1 es_1))) (dsG4.zip (VG4 [D0,D1,D2,D3] y (↑S:Int) a (↑r:Int) (0:Int) (-1:Int) (0:Int)))/\(y=(↑(Y - (k+1)):Int)/\k+1<=Y/\Cfg l t [D0,D1,D2,D3] Y/\r<16)/\∀ (o:Nat) (d:Int),grpF [D0,D1,D2,D3] (Y - (k+1)) r [D0,D1,D2,D3].length=(o,d)->∃ (S':Nat),∃ (O:Nat),∃ (a_2:Nat->Int),∃ (M:Mde),∃ (es:Lst),(VV.ptr (.own 3 0)=VV.ptr (.own 3 0)/\VV.ptr (.own 13 0)=VV.ptr (.own 13 0)/\VV.ptr (.own 1 0)=VV.ptr (.own 1 0)/\VV.ptr (.own 6 0)=VV.ptr (.own 6 0))/\(0=0/\15<=16)/\atL nsB4 (BP4 l t [D0,D1,D2,D3] Y M es) (VH.mk 16 (nsF4.zip (BF4 l t [D0,D1,D2,D3] Y y (↑S:Int) a M_1 es_1)))/\(y=(↑Y:Int) - (↑(k+1):Int)/\(↑S:Int)=(↑S':Int)/\(↑o:Int)=(↑O:Int)/\[I (z1 (0+0)),I (z1 (0+1)),I (z1 (0+2)),I (z1 (0+3)),I (z1 (0+4)),I (z1 (0+5))]=nL a_2)/\PreW l t [D0,D1,D2,D3] Y k O a_2 es/\∀ (b:Bool) (s:St),PostW l t [D0,D1,D2,D3] Y k O d a_2 M b s->bif !b then
 KeyLaw Try.prog 82 kS/\X .ret z2 [VB.cells [VV.tl t.T.length 1 (dG t.T),I t.far,I t.least] 25,VB.cells [VV.tl [D0,D1,D2,D3].length 1 (pthG [D0,D1,D2,D3])] 26,VB.cells (stD l::tsL t) 74,VB.cells [VV.ptr (.own 2 0)] 72,VB.cells [I (↑Y:Int)] 3,VB.cells [sFa 7 Y,sFa 8 Y,sFa 9 Y,sFa 10 Y] 76,VB.cells [VV.slice (.own 5 0) 4 4] 75,VB.fam [] (Y*6) (s.M 0) 80,VB.fam [] (Y*6) (s.M 1) 80,VB.fam [] (Y*6) (s.M 2) 80,VB.fam [] (Y*6) (s.M 3) 80,VB.map kS PK.bool (setE s.es [y,(↑S:Int),z1 (0+0),z1 (0+1),z1 (0+2),z1 (0+3),z1 (0+4),z1 (0+5)] (bif true then
 (1:Int)
 else (0:Int))),VB.cells [VV.mp 11] 77,VB.cells z3 78,VB.cells z4 88,VB.fam [I y,I (↑S:Int)] 6 z1 82]
 else X .normal [I (IntKind.i64.wrap (↑(BitVec.ofInt IntKind.i64.bits (↑r:Int) &&& ~~~BitVec.ofInt IntKind.i64.bits (↑o:Int)).toNat:Int)),VV.bool false,VV.ptr (.own 15 0),VV.agg [I y,I (↑S:Int),I (a 0),I (a 1),I (a 2),I (a 3),I (a 4),I (a 5)],VV.ptr (.own 4 0),VV.ptr (.own 12 0),VV.ptr (.own 1 0),VV.ptr (.own 14 0)] [VB.cells [VV.tl t.T.length 1 (dG t.T),I t.far,I t.least] 25,VB.cells [VV.tl [D0,D1,D2,D3].length 1 (pthG [D0,D1,D2,D3])] 26,VB.cells (stD l::tsL t) 74,VB.cells [VV.ptr (.own 2 0)] 72,VB.cells [I (↑Y:Int)] 3,VB.cells [sFa 7 Y,sFa 8 Y,sFa 9 Y,sFa 10 Y] 76,VB.cells [VV.slice (.own 5 0) 4 4] 75,VB.fam [] (Y*6) (s.M 0) 80,VB.fam [] (Y*6) (s.M 1) 80,VB.fam [] (Y*6) (s.M 2) 80,VB.fam [] (Y*6) (s.M 3) 80,VB.map kS PK.bool s.es,VB.cells [VV.mp 11] 77,VB.cells z3 78,VB.cells z4 88,VB.fam [I y,I (↑S:Int)] 6 z1 82]
 else X (.exit 0) z2 [VB.cells [VV.tl t.T.length 1 (dG t.T),I t.far,I t.least] 25,VB.cells [VV.tl [D0,D1,D2,D3].length 1 (pthG [D0,D1,D2,D3])] 26,VB.cells (stD l::tsL t) 74,VB.cells [VV.ptr (.own 2 0)] 72,VB.cells [I (↑Y:Int)] 3,VB.cells [sFa 7 Y,sFa 8 Y,sFa 9 Y,sFa 10 Y] 76,VB.cells [VV.slice (.own 5 0) 4 4] 75,VB.fam [] (Y*6) (M 0) 80,VB.fam [] (Y*6) (M 1) 80,VB.fam [] (Y*6) (M 2) 80,VB.fam [] (Y*6) (M 3) 80,VB.map kS PK.bool es,VB.cells [VV.mp 11] 77,VB.cells z3 78,VB.cells z4 88,VB.fam [I y,I (↑S:Int)] 6 z1 82])):=by kernel_rfl
def lFi4 (l:List Stk) (t:Tst) (P:List (List Int)) (Y k:Nat) (y:Int) (S:Nat) (a:Nat->Int):LT:=fun lock tt h K=>
 ∃ M es,FitP lock h tt ⟨16,nsF4.zip (BF4 l t P Y y S a M es)⟩ (dsF4.zip (VF4 y S a S))/\(y=(Y:Int) - (k+1:Nat)/\Cfg l t P Y/\PreF l t P Y (k+1) S a es)/\(∀ s,PostF l t P Y (k+1) S a M true s->K .normal (dsF4.zip (VF4 y S a 0)) ⟨16,nsF4.zip (BF4 l t P Y y S a s.M s.es)⟩) /\
  ∀ s (r:Int),PostF l t P Y (k+1) S a M false s->K .ret (dsF4.zip (VF4 y S a r)) ⟨16,nsF4.zip (BF4 l t P Y y S a s.M s.es)⟩
theorem fib4_ev (l:List Stk) (t:Tst) (D0 D1 D2 D3:List Int) (Y k:Nat) (M:Mde) (es:Lst) (y:Int) (S:Nat) (a:Nat->Int) (Q:VRes->VH->Prop):callN Try.prog noSpec (atF 44 [(0,lFi4 l t [D0,D1,D2,D3] Y k y S a)]) 10 20 0 (.fn 44) [.agg (I y::I S::nL a),.ptr (.own 4 0),.ptr (.own 12 0),.ptr (.own 1 0),.ptr (.own 14 0)] ⟨15,nsB4.zip (BP4 l t [D0,D1,D2,D3] Y M es)⟩ (fun r h=>Q r h) =
 (let z2:=(13,VB.cells [VV.func 44 [] [VV.ptr (.own 4 0),VV.ptr (.own 12 0),VV.ptr (.own 1 0),VV.ptr (.own 14 0)]] 78);
 let z3:=(14,VB.cells [VV.func 40 [] [VV.ptr (.own 3 0),VV.ptr (.own 13 0),VV.ptr (.own 1 0),VV.ptr (.own 6 0)]] 88);
 let z1:=(VH.mk (16) [(15,VB.fam [I y,I (↑S:Int)] (6) (f6 a) 82),(0,VB.cells [VV.tl t.T.length 1 (dG t.T),I t.far,I t.least] 25),(1,VB.cells [VV.tl [D0,D1,D2,D3].length 1 (pthG [D0,D1,D2,D3])] 26),(2,VB.cells (stD l::tsL t) 74),(3,VB.cells [VV.ptr (.own 2 0)] 72),(4,VB.cells [I (↑Y:Int)] 3),(5,VB.cells [sFa 7 Y,sFa 8 Y,sFa 9 Y,sFa 10 Y] 76),(6,VB.cells [VV.slice (.own 5 0) 4 4] 75),(7,VB.fam [] (Y*6) (M 0) 80),(8,VB.fam [] (Y*6) (M 1) 80),(9,VB.fam [] (Y*6) (M 2) 80),(10,VB.fam [] (Y*6) (M 3) 80),(11,VB.map kS PK.bool es),(12,VB.cells [VV.mp 11] 77),z2,z3]);
 (bif decide (y=(↑Y:Int)) then
 Q (.ret (.bool true)) z1
 else KeyLaw Try.prog 82 kS/\bif decide (valOf es [y,(↑S:Int),(f6 a) (0+0),(f6 a) (0+1),(f6 a) (0+2),(f6 a) (0+3),(f6 a) (0+4),(f6 a) (0+5)]=(1:Int)) then
 Q (.ret (.bool false)) z1
 else ∃ (M_1:Mde),∃ (es_1:Lst),FitP 0 (VH.mk (16) ((15,VB.fam [I y,I (↑S:Int)] (6) (f6 a) 82)::nsB4.zip (BP4 l t [D0,D1,D2,D3] Y M es))) [(7,I (↑S:Int)),(20,I (↑S:Int)),(19,VV.ptr (.own (15) (1))),(18,VV.bool false),(18,VV.bool (decide (valOf es [y,(↑S:Int),(f6 a) (0+0),(f6 a) (0+1),(f6 a) (0+2),(f6 a) (0+3),(f6 a) (0+4),(f6 a) (0+5)]=(1:Int)))),(17,VV.agg [I y,I (↑S:Int),I ((f6 a) (0+0)),I ((f6 a) (0+1)),I ((f6 a) (0+2)),I ((f6 a) (0+3)),I ((f6 a) (0+4)),I ((f6 a) (0+5))]),(16,VV.mp 11),(15,VV.bool false),(15,VV.bool (decide (y=(↑Y:Int)))),(14,I (↑Y:Int)),(13,I y),(12,VV.ptr (.own (15) 0)),(6,VV.bool false),(5,VV.ptr (.own (15) 0)),(0,VV.agg (I y::I (↑S:Int)::nL a)),(1,VV.ptr (.own 4 0)),(2,VV.ptr (.own 12 0)),(3,VV.ptr (.own 1 0)),(4,VV.ptr (.own 14 0))] (VH.mk 16 (nsF4.zip (BF4 l t [D0,D1,D2,D3] Y y (↑S:Int) a M_1 es_1))) (dsF4.zip (VF4 y (↑S:Int) a (↑S:Int)))/\(y=(↑Y:Int) - (↑(k+1):Int)/\Cfg l t [D0,D1,D2,D3] Y/\PreF l t [D0,D1,D2,D3] Y (k+1) S a es_1)/\(∀ (s:St),PostF l t [D0,D1,D2,D3] Y (k+1) S a M_1 true s->Q (.ret (.bool true)) (VH.mk 16 [(0,VB.cells [VV.tl t.T.length 1 (dG t.T),I t.far,I t.least] 25),(1,VB.cells [VV.tl [D0,D1,D2,D3].length 1 (pthG [D0,D1,D2,D3])] 26),(2,VB.cells (stD l::tsL t) 74),(3,VB.cells [VV.ptr (.own 2 0)] 72),(4,VB.cells [I (↑Y:Int)] 3),(5,VB.cells [sFa 7 Y,sFa 8 Y,sFa 9 Y,sFa 10 Y] 76),(6,VB.cells [VV.slice (.own 5 0) 4 4] 75),(7,VB.fam [] (Y*6) (s.M 0) 80),(8,VB.fam [] (Y*6) (s.M 1) 80),(9,VB.fam [] (Y*6) (s.M 2) 80),(10,VB.fam [] (Y*6) (s.M 3) 80),(11,VB.map kS PK.bool s.es),(12,VB.cells [VV.mp 11] 77),z2,z3,(15,VB.fam [I y,I (↑S:Int)] 6 (fun (k:Nat)=>(ch a).getD k (0:Int)) 82)]))/\∀ (s:St) (r:Int),PostF l t [D0,D1,D2,D3] Y (k+1) S a M_1 false s->Q (.ret (.bool false)) (VH.mk 16 [(0,VB.cells [VV.tl t.T.length 1 (dG t.T),I t.far,I t.least] 25),(1,VB.cells [VV.tl [D0,D1,D2,D3].length 1 (pthG [D0,D1,D2,D3])] 26),(2,VB.cells (stD l::tsL t) 74),(3,VB.cells [VV.ptr (.own 2 0)] 72),(4,VB.cells [I (↑Y:Int)] 3),(5,VB.cells [sFa 7 Y,sFa 8 Y,sFa 9 Y,sFa 10 Y] 76),(6,VB.cells [VV.slice (.own 5 0) 4 4] 75),(7,VB.fam [] (Y*6) (s.M 0) 80),(8,VB.fam [] (Y*6) (s.M 1) 80),(9,VB.fam [] (Y*6) (s.M 2) 80),(10,VB.fam [] (Y*6) (s.M 3) 80),(11,VB.map kS PK.bool s.es),(12,VB.cells [VV.mp 11] 77),z2,z3,(15,VB.fam [I y,I (↑S:Int)] 6 (fun (k:Nat)=>(ch a).getD k (0:Int)) 82)]))):=by kernel_rfl
theorem fiz4_ev (l:List Stk) (t:Tst) (D0 D1 D2 D3:List Int) (Y:Nat) (M:Mde) (es:Lst) (y:Int) (S:Nat) (a:Nat->Int) (Q:VRes->VH->Prop):callN Try.prog noSpec (atF 44 [(0,lZ)]) 10 20 0 (.fn 44) [.agg (I y::I S::nL a),.ptr (.own 4 0),.ptr (.own 12 0),.ptr (.own 1 0),.ptr (.own 14 0)] ⟨15,nsB4.zip (BP4 l t [D0,D1,D2,D3] Y M es)⟩ (fun r h=>Q r h) =
 (bif decide (y=(↑Y:Int)) then
 Q (.ret (.bool true)) (VH.mk (16) [(15,VB.fam [I y,I (↑S:Int)] (6) (f6 a) 82),(0,VB.cells [VV.tl t.T.length 1 (dG t.T),I t.far,I t.least] 25),(1,VB.cells [VV.tl [D0,D1,D2,D3].length 1 (pthG [D0,D1,D2,D3])] 26),(2,VB.cells (stD l::tsL t) 74),(3,VB.cells [VV.ptr (.own 2 0)] 72),(4,VB.cells [I (↑Y:Int)] 3),(5,VB.cells [sFa 7 Y,sFa 8 Y,sFa 9 Y,sFa 10 Y] 76),(6,VB.cells [VV.slice (.own 5 0) 4 4] 75),(7,VB.fam [] (Y*6) (M 0) 80),(8,VB.fam [] (Y*6) (M 1) 80),(9,VB.fam [] (Y*6) (M 2) 80),(10,VB.fam [] (Y*6) (M 3) 80),(11,VB.map kS PK.bool es),(12,VB.cells [VV.mp 11] 77),(13,VB.cells [VV.func 44 [] [VV.ptr (.own 4 0),VV.ptr (.own 12 0),VV.ptr (.own 1 0),VV.ptr (.own 14 0)]] 78),(14,VB.cells [VV.func 40 [] [VV.ptr (.own 3 0),VV.ptr (.own 13 0),VV.ptr (.own 1 0),VV.ptr (.own 6 0)]] 88)])
 else KeyLaw Try.prog 82 kS/\bif decide (valOf es [y,(↑S:Int),(f6 a) (0+0),(f6 a) (0+1),(f6 a) (0+2),(f6 a) (0+3),(f6 a) (0+4),(f6 a) (0+5)]=(1:Int)) then
 Q (.ret (.bool false)) (VH.mk (16) [(15,VB.fam [I y,I (↑S:Int)] (6) (f6 a) 82),(0,VB.cells [VV.tl t.T.length 1 (dG t.T),I t.far,I t.least] 25),(1,VB.cells [VV.tl [D0,D1,D2,D3].length 1 (pthG [D0,D1,D2,D3])] 26),(2,VB.cells (stD l::tsL t) 74),(3,VB.cells [VV.ptr (.own 2 0)] 72),(4,VB.cells [I (↑Y:Int)] 3),(5,VB.cells [sFa 7 Y,sFa 8 Y,sFa 9 Y,sFa 10 Y] 76),(6,VB.cells [VV.slice (.own 5 0) 4 4] 75),(7,VB.fam [] (Y*6) (M 0) 80),(8,VB.fam [] (Y*6) (M 1) 80),(9,VB.fam [] (Y*6) (M 2) 80),(10,VB.fam [] (Y*6) (M 3) 80),(11,VB.map kS PK.bool es),(12,VB.cells [VV.mp 11] 77),(13,VB.cells [VV.func 44 [] [VV.ptr (.own 4 0),VV.ptr (.own 12 0),VV.ptr (.own 1 0),VV.ptr (.own 14 0)]] 78),(14,VB.cells [VV.func 40 [] [VV.ptr (.own 3 0),VV.ptr (.own 13 0),VV.ptr (.own 1 0),VV.ptr (.own 6 0)]] 88)])
 else False):=by kernel_rfl
end Go.Sx.Bln
