/- stream: CxRb Ea2 Eb1 Eb2 Eb3 Eb4 La1 Ce1 Cf1 Cg1 Cn1 Co1 La2 Fb1 Fb2 Lc2 Ma1 Oa1 Mb1, in one text. -/
import Derived.Test.YtlboglkgbhjpeaaWW2
import Derived.Test.YtlboglkgbhjpeaaWW3
namespace Go.Sx.Bln
open Go Go.Sx Go.Proofs Go.ChangeShapes Go.WideShapes Go.RowKit
set_option maxRecDepth 1000000
section
variable {H:Type} {enc:TypeId × Value->H} {w:World} {b0 base:Nat} {spare:Nat->Bool} {held:Bool} {d:DataW H} {p:List MemPlace} {v:Value} {fuel:Nat} {y:DataW H × List MemPlace}
end
open Go Go.Sx Go.Proofs
section
variable {l:List Stk} {t:Tst} {y m:Int} {D B:List Int}
end
section
variable {l:List Stk} {t:Tst} {y m u:Int} {D:List Int} {n:Nat->Int}
end
section
variable {l:List Stk} {t:Tst} {y m u e n:Int} {D B:List Int}
end
section
variable {l:List Stk} {t:Tst} {y m u:Int} {D B:List Int}
end
def asK (l:List Stk) (t:Tst) (b:Bool):FuncId × Spec1:=(38,fun _ args h K=>match args with
 | [x,y]=>isD h 2 x (stD l)/\isD h 2 y (.agg (tsL t))/\okAll l t=b/\K (.ret (.bool b)) h
 | _=>False)
def apK (p:List (List Int)) (b:Bool):FuncId × Spec1:=(39,fun _ args h K=>match args with
 | [x]=>isD h 4 x (pthD p)/\(pthB p/\okPaths p=b)/\K (.ret (.bool b)) h
 | _=>False)
theorem ple1_ev (l:List Stk) (t:Tst) (p:List (List Int)) (Q:VRes->VH->Prop):callN Try.prog (tabS [asK l t false]) noL 10 20 0 (.fn 17) [stD l,.agg (tsL t),pthD p] ⟨0,[]⟩ (fun r h=>Q r h) =
 (isD (VH.mk (2) [(1,VB.cells [VV.tl p.length 1 (pthG p)] 26),(0,VB.cells (tsL t) 25)]) 2 (stD l) (stD l)/\isD (VH.mk (2) [(1,VB.cells [VV.tl p.length 1 (pthG p)] 26),(0,VB.cells (tsL t) 25)]) 2 (VV.agg (tsL t)) (VV.agg (tsL t))/\okAll l t=false/\Q (.ret (.tup [VV.nils,I 1])) (VH.mk (2) [(1,VB.cells [VV.tl p.length 1 (pthG p)] 26),(0,VB.cells (tsL t) 25)])):=by kernel_rfl
theorem ple2_ev (l:List Stk) (t:Tst) (p:List (List Int)) (Q:VRes->VH->Prop):callN Try.prog (tabS [asK l t true,apK p false]) noL 10 20 0 (.fn 17) [stD l,.agg (tsL t),pthD p] ⟨0,[]⟩ (fun r h=>Q r h) =
 (isD (VH.mk (2) [(1,VB.cells [VV.tl p.length 1 (pthG p)] 26),(0,VB.cells (tsL t) 25)]) 2 (stD l) (stD l)/\isD (VH.mk (2) [(1,VB.cells [VV.tl p.length 1 (pthG p)] 26),(0,VB.cells (tsL t) 25)]) 2 (VV.agg (tsL t)) (VV.agg (tsL t))/\okAll l t=true/\isD (VH.mk (2) [(1,VB.cells [VV.tl p.length 1 (pthG p)] 26),(0,VB.cells (tsL t) 25)]) 4 (VV.tl p.length 1 (pthG p)) (pthD p)/\(pthB p/\okPaths p=false)/\Q (.ret (.tup [VV.nils,I 2])) (VH.mk (2) [(1,VB.cells [VV.tl p.length 1 (pthG p)] 26),(0,VB.cells (tsL t) 25)])):=by kernel_rfl
def plE (l:List Stk) (t:Tst) (p:List (List Int)):Int:=if okAll l t=false then 1 else if okPaths p=false then 2 else match planF l t p (p.getD 0 []).length (p.getD 0 []).length (2 ^ p.length - 1) (mostF l) with
 | none=>4
 | some _=>0
def plR1 (l:List Stk) (t:Tst):FuncId × Spec1:=(17,fun _ args h K=>match args with
 | [x,z,w]=>isD h 4 x (stD l)/\isD h 4 z (.agg (tsL t))/\∃ d:List Int,isD h 4 w (pthD [d])/\d.length<=100000/\∀ e:Int,e=plE l t [d]->K (.ret (.tup [.any,I e])) h
 | _=>False)
theorem la1_ev (l:List Stk) (t:Tst) (m:Int) (Q:VRes->Prop):callN Try.prog (tabS [asK l t false]) noL 10 20 0 (.fn 22) [stD l,.agg (tsL t),I m] ⟨0,[]⟩ (fun r _=>Q r) =
 (isD (VH.mk (0+1) [(0,VB.cells (tsL t) 25)]) 2 (stD l) (stD l)/\isD (VH.mk (0+1) [(0,VB.cells (tsL t) 25)]) 2 (VV.agg (tsL t)) (VV.agg (tsL t))/\okAll l t=false/\Q (.ret (.tup [I 0,I 1]))):=by kernel_rfl
theorem la_ev (l:List Stk) (t:Tst) (m:Int) (Q:VRes->Prop):callN Try.prog (tabS [asK l t true,plR1 l t]) noL 10 20 0 (.fn 22) [stD l,.agg (tsL t),I m] ⟨0,[]⟩ (fun r _=>Q r) =
 (let z1:=(fun (j:Nat)=>List.take (1) (List.drop (j*(1)) [I m]));
 let z5:=(catG 1 z1 fun (j:Nat)=>List.take (1) (List.drop (j*(1)) [I m]));
 let z2:=(VH.mk (10) [(9,VB.cells [VV.sl (2) (1+1+1+1)] 23),(2,VB.vec (1+1+1+1) (catG (1+1+1) (catG (1+1) z5 fun (j:Nat)=>List.take (1) (List.drop (j*(1)) [I m])) fun (j:Nat)=>List.take (1) (List.drop (j*(1)) [I m])) (1) 3),(8,VB.vec 1 z1 (1) 3),(7,VB.cells [VV.sl (2) (1+1+1)] 23),(2,VB.vec (1+1+1) (catG (1+1) z5 fun (j:Nat)=>List.take (1) (List.drop (j*(1)) [I m])) (1) 3),(6,VB.vec 1 z1 (1) 3),(5,VB.cells [VV.sl (2) (1+1)] 23),(2,VB.vec (1+1) z5 (1) 3),(4,VB.vec 1 z1 (1) 3),(3,VB.cells [VV.sl (2) 1] 23),(2,VB.vec 1 z1 (1) 3),(1,VB.vec 1 z1 (1) 3),(0,VB.cells (tsL t) 25)]);
 let z3:=(VH.mk (8) [(7,VB.cells [VV.sl (2) (1+1+1)] 23),(2,VB.vec (1+1+1) (catG (1+1) z5 fun (j:Nat)=>List.take (1) (List.drop (j*(1)) [I m])) (1) 3),(6,VB.vec 1 z1 (1) 3),(5,VB.cells [VV.sl (2) (1+1)] 23),(2,VB.vec (1+1) z5 (1) 3),(4,VB.vec 1 z1 (1) 3),(3,VB.cells [VV.sl (2) 1] 23),(2,VB.vec 1 z1 (1) 3),(1,VB.vec 1 z1 (1) 3),(0,VB.cells (tsL t) 25)]);
 let z4:=(VH.mk (6) [(5,VB.cells [VV.sl (2) (1+1)] 23),(2,VB.vec (1+1) z5 (1) 3),(4,VB.vec 1 z1 (1) 3),(3,VB.cells [VV.sl (2) 1] 23),(2,VB.vec 1 z1 (1) 3),(1,VB.vec 1 z1 (1) 3),(0,VB.cells (tsL t) 25)]);
 let z6:=(VH.mk (4) [(3,VB.cells [VV.sl (2) 1] 23),(2,VB.vec 1 z1 (1) 3),(1,VB.vec 1 z1 (1) 3),(0,VB.cells (tsL t) 25)]);
 (isD (VH.mk (0+1) [(0,VB.cells (tsL t) 25)]) 2 (stD l) (stD l)/\isD (VH.mk (0+1) [(0,VB.cells (tsL t) 25)]) 2 (VV.agg (tsL t)) (VV.agg (tsL t))/\okAll l t=true/\bif decide ((0:Int)<=m) then
 bif !decide (m<=(1048576:Int)) then
 Q (.ret (.tup [I 0,I 2]))
 else isD z6 4 (stD l) (stD l)/\isD z6 4 (VV.agg (tsL t)) (VV.agg (tsL t))/\∃ (d:List Int),isD z6 4 (VV.slice (.own (3) 0) 1 1) (pthD [d])/\d.length<=100000/\∀ (e:Int),e=plE l t [d]->bif !decide (e=(0:Int)) then
 Q (.ret (.tup [I 0,I 0]))
 else isD z4 4 (stD l) (stD l)/\isD z4 4 (VV.agg (tsL t)) (VV.agg (tsL t))/\∃ (d:List Int),isD z4 4 (VV.slice (.own (5) 0) 1 1) (pthD [d])/\d.length<=100000/\∀ (e:Int),e=plE l t [d]->bif !decide (e=(0:Int)) then
 Q (.ret (.tup [I ((0:Int)+(1:Int)),I 0]))
 else isD z3 4 (stD l) (stD l)/\isD z3 4 (VV.agg (tsL t)) (VV.agg (tsL t))/\∃ (d:List Int),isD z3 4 (VV.slice (.own (7) 0) 1 1) (pthD [d])/\d.length<=100000/\∀ (e:Int),e=plE l t [d]->bif !decide (e=(0:Int)) then
 Q (.ret (.tup [I ((0:Int)+(1:Int)+(1:Int)),I 0]))
 else isD z2 4 (stD l) (stD l)/\isD z2 4 (VV.agg (tsL t)) (VV.agg (tsL t))/\∃ (d:List Int),isD z2 4 (VV.slice (.own (9) 0) 1 1) (pthD [d])/\d.length<=100000/\∀ (e:Int),e=plE l t [d]->bif !decide (e=(0:Int)) then
 Q (.ret (.tup [I ((0:Int)+(1:Int)+(1:Int)+(1:Int)),I 0]))
 else Q (.ret (.tup [I 4,I 0]))
 else Q (.ret (.tup [I 0,I 2])))):=by kernel_rfl
def BP1 (l:List Stk) (t:Tst) (P:List (List Int)) (Y:Nat) (M:Mde) (es:Lst):List VB:=[.cells (tsL t) 25,.cells [pthD P] 26,.cells (stD l::tsL t) 74,.cells [.ptr (.own 2 0)] 72,.cells [I Y] 3,.cells [sFa 7 Y] 76,.cells [.slice (.own 5 0) 1 1] 75,.fam [] (Y*6) (M 0) 80,
 .map kS .bool es,.cells [.mp 8] 77,.cells [.func 44 [] [.ptr (.own 4 0),.ptr (.own 9 0),.ptr (.own 1 0),.ptr (.own 11 0)]] 78,.cells [.func 40 [] [.ptr (.own 3 0),.ptr (.own 10 0),.ptr (.own 1 0),.ptr (.own 6 0)]] 88]
def nsB1:List Nat:=[0,1,2,3,4,5,6,7,8,9,10,11]
def findR1 (l:List Stk) (t:Tst) (P:List (List Int)) (Y k:Nat):FuncId × Spec1:=(44,fun lock args h K=>match args,h with
 | [.agg (.int .i64 y::.int .i64 S::ns),x1,x2,x3,x4],⟨nx,bs⟩=>∃ (S':Nat) (a:Nat->Int) (M:Mde) (es:Lst),(x1=.ptr (.own 4 0)/\x2=.ptr (.own 9 0)/\x3=.ptr (.own 1 0)/\x4=.ptr (.own 11 0))/\(lock=0/\12<=nx)/\atL nsB1 (BP1 l t P Y M es) ⟨nx,bs⟩/\(y=(Y:Int) - k/\S=S'/\ns=nL a)/\PreF l t P Y k S' a es /\
   ∀ (b:Bool) (s:St),PostF l t P Y k S' a M b s->K (.ret (.bool b)) ⟨nx,(7,.fam [] (Y*6) (s.M 0) 80)::(8,.map kS .bool s.es)::bs⟩
 | _,_=>False)
def folR1 (l:List Stk) (t:Tst) (P:List (List Int)) (Y k:Nat):FuncId × Spec1:=(40,fun lock args h K=>match args,h with
 | [.agg (.int .i64 y::.int .i64 S::ns),.int .i64 o,.int .i64 d,x1,x2,x3,x4],⟨nx,bs⟩=>∃ (S' O:Nat) (a:Nat->Int) (M:Mde) (es:Lst),(x1=.ptr (.own 3 0)/\x2=.ptr (.own 10 0)/\x3=.ptr (.own 1 0)/\x4=.ptr (.own 6 0))/\(lock=0/\12<=nx)/\atL nsB1 (BP1 l t P Y M es) ⟨nx,bs⟩/\(y=(Y:Int) - (k+1:Nat)/\S=S'/\o=O/\ns=nL a)/\PreW l t P Y k O a es /\
   ∀ (b:Bool) (s:St),PostW l t P Y k O d a M b s->K (.ret (.bool b)) ⟨nx,(7,.fam [] (Y*6) (s.M 0) 80)::(8,.map kS .bool s.es)::bs⟩
 | _,_=>False)
def slFo1 (y S own need:Int) (a:Nat->Int):Slots:=[(16,VV.func 74 [] [.ptr (.own 16 0),.ptr (.own 17 0)]),(15,VV.agg (nL a)),(14,VV.ptr (VA.own 12 2)),(13,.ptr (.own 2 0)),(10,.ptr (.own 15 0)),(9,.ptr (.own 14 0)),(8,.ptr (.own 13 0)),(7,.ptr (.own 12 0)),(0,VV.agg (I y::I S::nL a)),(1,I own),(2,I need),(3,.ptr (.own 3 0)),(4,.ptr (.own 10 0)),(5,.ptr (.own 1 0)),(6,.ptr (.own 6 0))]
def VFo1:List VV:=[.ptr (.own 19 0),.yld 18,.ptr (.own 16 0),.ptr (.own 17 0)]
def VFi1 (i:Int):List VV:=I i::VFo1
def nsFo1:List Nat:=[0,1,2,3,4,5,6,7,8,9,10,11,12,13,14,15,16,17,18,19]
noncomputable def BFo1 (l:List Stk) (t:Tst) (P:List (List Int)) (Y:Nat) (y S own need:Int) (a:Nat->Int) (M:Mde) (es:Lst) (n:Nat->Int):List VB:=BP1 l t P Y M es ++ [faS y S a,.cells [I own] 3,.cells [I need] 3,.cells [.bool false] 4,.cells [.ptr (.own 2 0)] 72,faN a,.loop true none (slFo1 y S own need a) 58 [17] asFo bdFo,.fam [] 6 n 80]
theorem ino1_ev (l:List Stk) (t:Tst) (P:List (List Int)) (Y:Nat) (y S own need i:Int) (a:Nat->Int) (M:Mde) (es:Lst) (n:Nat->Int) (X:VEx->List VV->List VB->Prop):codeE Try.prog (callN Try.prog noSpec noL 10 20) (fun _=>none) true 10 (ntOf Try.prog 74) 0 (loopB 2 (bodyOf Try.prog 74)) (dsI.zip (VFi1 i)) ⟨21,nsFo1.zip (BFo1 l t P Y y S own need a M es n)⟩ (obs 21 dsI nsFo1 X) =
 (bif decide (i ≥ (0:Int)) then
 bif decide ((0:Int)<=i/\i<(↑6:Int)) then
 bif decide (i.toNat*(1)<6) then
 bif decide ((0:Int)<=i/\i<(↑6:Int)) then
 bif decide (i.toNat*(1)<6) then
 bif decide (n (i.toNat*(1))=(fun (k:Nat)=>(ch a).getD k (0:Int)) (i.toNat*(1))) then
 bif decide ((0:Int)<=i/\i<(↑6:Int)) then
 bif decide (i.toNat*(1)+(1)<=6) then
 bif inK .i64 (i - (1:Int)) then
 X .normal [I (i - (1:Int)),VV.ptr (.own 19 0),VV.yld 18,VV.ptr (.own 16 0),VV.ptr (.own 17 0)] (BFo1 l t P Y y S own need a M es (setF n (i.toNat*(1)) [(0:Int)]))
 else False
 else False
 else False
 else X (.exit 2) [I i,VV.ptr (.own 19 0),VV.yld 18,VV.ptr (.own 16 0),VV.ptr (.own 17 0)] (BFo1 l t P Y y S own need a M es n)
 else False
 else False
 else False
 else False
 else X (.exit 2) [I i,VV.ptr (.own 19 0),VV.yld 18,VV.ptr (.own 16 0),VV.ptr (.own 17 0)] (BFo1 l t P Y y S own need a M es n)):=by kernel_rfl
noncomputable abbrev BQf1 (l:List Stk) (t:Tst) (P:List (List Int)) (Y:Nat) (y S own need:Int) (a:Nat->Int) (A0:Nat->Int) (es:Lst) (b:Bool) (n:Nat->Int):List VB:=[.cells (tsL t) 25,.cells [pthD P] 26,.cells (stD l::tsL t) 74,.cells [.ptr (.own 2 0)] 72,.cells [I Y] 3,.cells [sFa 7 Y] 76,.cells [.slice (.own 5 0) 1 1] 75,.fam [] (Y*6) A0 80,
 .map kS .bool es,.cells [.mp 8] 77,.cells [.func 44 [] [.ptr (.own 4 0),.ptr (.own 9 0),.ptr (.own 1 0),.ptr (.own 11 0)]] 78,.cells [.func 40 [] [.ptr (.own 3 0),.ptr (.own 10 0),.ptr (.own 1 0),.ptr (.own 6 0)]] 88] ++ [faS y S a,.cells [I own] 3,.cells [I need] 3,.cells [.bool b] 4,.cells [.ptr (.own 2 0)] 72,faN a,.loop (!b) (bif b then some .ret else none) (slFo1 y S own need a) 58 [17] asFo bdFo,.fam [] 6 n 80]
noncomputable def lIo1 (l:List Stk) (t:Tst) (P:List (List Int)) (Y:Nat) (y S own need:Int) (a:Nat->Int):LT:=fun lock tt h K=>
 ∃ M es n,FitP lock h tt ⟨21,nsFo1.zip (BFo1 l t P Y y S own need a M es n)⟩ (dsI.zip (VFi1 (l.length - 1)))/\l.length<=6/\∀ (k:Nat) (n':Nat->Int),scanC a l.length n=(k,n')->K .normal (dsI.zip (VFi1 (k - 1))) ⟨21,nsFo1.zip (BFo1 l t P Y y S own need a M es n')⟩
theorem fr1_ev (l:List Stk) (t:Tst) (D0:List Int) (Y k:Nat) (M:Mde) (es:Lst) (y S need:Int) (O:Nat) (a n:Nat->Int) (X:VEx->List VV->List VB->Prop):codeE Try.prog (callN Try.prog (tabS [meetsR l t,lessT,findR1 l t [D0] Y k]) noL 10 20) (tabB [(2,lIo1 l t [D0] Y y S O need a)]) true 10 (ntOf Try.prog 74) 0 (loopB 0 (bodyOf Try.prog 74)) (dsC.zip VFo1) ⟨20,nsFo1.zip (BFo1 l t [D0] Y y S O need a M es n)⟩ (obs 20 dsC nsFo1 X) =
 (let z1:=[n (0+0),n (0+1),n (0+2),n (0+3),n (0+4),n (0+5)];
 let z2:=((5,I ((↑l.length:Int) - (1:Int)))::(15,I ((↑l.length:Int) - (1:Int)))::(14,I (↑l.length:Int))::(13,VV.tl l.length 5 (stG l))::(12,VV.ptr (.own 2 0))::(11,VV.ptr (.own 2 0))::(10,VV.ptr (.own 2 0))::(9,VV.bool false)::(9,VV.bool !true)::(8,VV.bool true)::(7,VV.agg [I (n (0+0)),I (n (0+1)),I (n (0+2)),I (n (0+3)),I (n (0+4)),I (n (0+5))])::(6,VV.yld 18)::dsC.zip VFo1);
 let z3:=[VV.ptr (.own 19 0),VV.yld 18,VV.ptr (.own 16 0),VV.ptr (.own 17 0)];
 let z4:=[I (setF (fun (_:Nat)=>(0:Int)) 0 z1 (0+0)),I (setF (fun (_:Nat)=>(0:Int)) 0 z1 (0+1)),I (setF (fun (_:Nat)=>(0:Int)) 0 z1 (0+2)),I (setF (fun (_:Nat)=>(0:Int)) 0 z1 (0+3)),I (setF (fun (_:Nat)=>(0:Int)) 0 z1 (0+4)),I (setF (fun (_:Nat)=>(0:Int)) 0 z1 (0+5))];
 let z5:=(VH.mk (21) ((18,VB.gone)::(20,VB.fam [] (6) (setF (fun (_:Nat)=>(0:Int)) 0 z1) 80)::(20,VB.fam [] (6) (fun (_:Nat)=>(0:Int)) 80)::nsFo1.zip (BFo1 l t [D0] Y y S (↑O:Int) need a M es n)));
 let z6:=(fun (k:Nat)=>(ch a).getD k (0:Int));
 (∃ (n_1:Nat->Int),isD z5 4 (VV.ptr (.own 2 0)) (VV.tp (stD l::tsL t))/\z4=nL n_1/\(conB l t n_1/\(0:Int)<=y/\y<=(1000:Int))/\bif !meetsF l t n_1 y need then
 bif inK .i64 ((↑l.length:Int) - (1:Int)) then
 ∃ (M_1:Mde),∃ (es_1:Lst),∃ (n_2:Nat->Int),FitP 0 (VH.mk (21) ((18,VB.loop true none (slFo1 y S (↑O:Int) need a) 58 [17] asFo bdFo)::(18,VB.gone)::(20,VB.fam [] (6) (setF (fun (_:Nat)=>(0:Int)) 0 z1) 80)::(20,VB.fam [] (6) (fun (_:Nat)=>(0:Int)) 80)::nsFo1.zip (BFo1 l t [D0] Y y S (↑O:Int) need a M es n))) z2 (VH.mk 21 (nsFo1.zip (BFo1 l t [D0] Y y S (↑O:Int) need a M_1 es_1 n_2))) (dsI.zip (VFi1 ((↑l.length:Int) - (1:Int))))/\l.length<=6/\∀ (k:Nat) (n':Nat->Int),scanC a l.length n_2=(k,n')->bif decide ((↑k:Int) - (1:Int)<(0:Int)) then
 X .ret z3 (BFo1 l t [D0] Y y S O need a M_1 es_1 n')
 else bif decide ((0:Int)<=(↑k:Int) - (1:Int)/\(↑k:Int) - (1:Int)<(↑6:Int)) then
 bif decide (((↑k:Int) - (1:Int)).toNat*(1)<6) then
 bif inK .i64 (n' (((↑k:Int) - (1:Int)).toNat*(1))+(1:Int)) then
 bif decide ((0:Int)<=(↑k:Int) - (1:Int)/\(↑k:Int) - (1:Int)<(↑6:Int)) then
 bif decide (((↑k:Int) - (1:Int)).toNat*(1)+(1)<=6) then
 X .normal z3 (BFo1 l t [D0] Y y S O need a M_1 es_1 (setF n' (((↑k:Int) - (1:Int)).toNat*(1)) [n' (((↑k:Int) - (1:Int)).toNat*(1))+(1:Int)]))
 else False
 else False
 else False
 else False
 else False
 else False
 else bif inK .i64 (y+(1:Int)) then
 ∃ (a_1:Nat->Int),∃ (b:Nat->Int),[I (z6 (0+0)),I (z6 (0+1)),I (z6 (0+2)),I (z6 (0+3)),I (z6 (0+4)),I (z6 (0+5))]=nL a_1/\z4=nL b/\bdL a_1 b/\∃ (S':Nat),∃ (a_2:Nat->Int),∃ (M_1:Mde),∃ (es_1:Lst),(VV.ptr (.own 4 0)=VV.ptr (.own 4 0)/\VV.ptr (.own 9 0)=VV.ptr (.own 9 0)/\VV.ptr (.own 1 0)=VV.ptr (.own 1 0)/\VV.ptr (.own 11 0)=VV.ptr (.own 11 0))/\(0=0/\12<=21)/\atL nsB1 (BP1 l t [D0] Y M_1 es_1) z5/\(y+(1:Int)=(↑Y:Int) - (↑k:Int)/\(↑O:Int)=(↑S':Int)/\[I (lsF a_1 b 6 0),I (lsF a_1 b 6 1),I (lsF a_1 b 6 2),I (lsF a_1 b 6 3),I (lsF a_1 b 6 4),I (lsF a_1 b 6 5)]=nL a_2)/\PreF l t [D0] Y k S' a_2 es_1/\∀ (b:Bool) (s:St),PostF l t [D0] Y k S' a_2 M_1 b s->bif !b then
 bif inK .i64 ((↑l.length:Int) - (1:Int)) then
 ∃ (M_2:Mde),∃ (es_2:Lst),∃ (n_2:Nat->Int),FitP 0 (VH.mk (21) ((18,VB.loop true none (slFo1 y S (↑O:Int) need a) 58 [17] asFo bdFo)::(7,VB.fam [] (Y*6) (s.M 0) 80)::(8,VB.map kS PK.bool s.es)::(18,VB.gone)::(20,VB.fam [] (6) (setF (fun (_:Nat)=>(0:Int)) 0 z1) 80)::(20,VB.fam [] (6) (fun (_:Nat)=>(0:Int)) 80)::nsFo1.zip (BFo1 l t [D0] Y y S (↑O:Int) need a M es n))) z2 (VH.mk 21 (nsFo1.zip (BFo1 l t [D0] Y y S (↑O:Int) need a M_2 es_2 n_2))) (dsI.zip (VFi1 ((↑l.length:Int) - (1:Int))))/\l.length<=6/\∀ (k:Nat) (n':Nat->Int),scanC a l.length n_2=(k,n')->bif decide ((↑k:Int) - (1:Int)<(0:Int)) then
 X .ret z3 (BFo1 l t [D0] Y y S O need a M_2 es_2 n')
 else bif decide ((0:Int)<=(↑k:Int) - (1:Int)/\(↑k:Int) - (1:Int)<(↑6:Int)) then
 bif decide (((↑k:Int) - (1:Int)).toNat*(1)<6) then
 bif inK .i64 (n' (((↑k:Int) - (1:Int)).toNat*(1))+(1:Int)) then
 bif decide ((0:Int)<=(↑k:Int) - (1:Int)/\(↑k:Int) - (1:Int)<(↑6:Int)) then
 bif decide (((↑k:Int) - (1:Int)).toNat*(1)+(1)<=6) then
 X .normal z3 (BFo1 l t [D0] Y y S O need a M_2 es_2 (setF n' (((↑k:Int) - (1:Int)).toNat*(1)) [n' (((↑k:Int) - (1:Int)).toNat*(1))+(1:Int)]))
 else False
 else False
 else False
 else False
 else False
 else False
 else bif decide (IntKind.i64.wrap (↑(BitVec.ofInt IntKind.i64.bits ((↑O:Int).fdiv ((2:Int) ^ min (Int.toNat (0:Int)) IntKind.i64.bits)) &&& BitVec.ofInt IntKind.i64.bits (1:Int)).toNat:Int)=(1:Int)) then
 bif decide ((0:Int)<=y/\y<(↑Y:Int)) then
 bif decide (0+y.toNat*(6)+(6)<=Y*6) then
 X .ret z3 (BQf1 l t [D0] Y y S O need a (s6 s 0 y n) s.es true n)
 else False
 else False
 else X .ret z3 (BQf1 l t [D0] Y y S O need a (s.M 0) s.es true n)
 else False)):=by kernel_rfl
noncomputable def BFoT1 (l:List Stk) (t:Tst) (P:List (List Int)) (Y:Nat) (y S own need:Int) (a:Nat->Int) (M:Mde) (es:Lst) (n:Nat->Int):List VB:=BP1 l t P Y M es ++ [faS y S a,.cells [I own] 3,.cells [I need] 3,.cells [.bool true] 4,.cells [.ptr (.own 2 0)] 72,faN a,.loop false (some .ret) (slFo1 y S own need a) 58 [17] asFo bdFo,.fam [] 6 n 80]
noncomputable def lFo1 (l:List Stk) (t:Tst) (P:List (List Int)) (Y k:Nat) (y S d:Int) (O:Nat) (a:Nat->Int):LT:=fun lock tt h K=>
 ∃ M es,FitP lock h tt ⟨20,nsFo1.zip (BFo1 l t P Y y S O d a M es fun _=>0)⟩ (dsC.zip VFo1)/\(y=(Y:Int) - (k+1:Nat)/\Cfg l t P Y/\PreW l t P Y k O a es)/\(∀ s n',PostW l t P Y k O d a M false s->K .ret (dsC.zip VFo1) ⟨20,nsFo1.zip (BFo1 l t P Y y S O d a s.M s.es n')⟩) /\
  ∀ s n',PostW l t P Y k O d a M true s->K .ret (dsC.zip VFo1) ⟨20,nsFo1.zip (BFoT1 l t P Y y S O d a s.M s.es n')⟩
theorem fob1_ev (l:List Stk) (t:Tst) (D0:List Int) (Y k:Nat) (M:Mde) (es:Lst) (y S d:Int) (O:Nat) (a:Nat->Int) (Q:VRes->VH->Prop):callN Try.prog noSpec (atF 74 [(0,lFo1 l t [D0] Y k y S d O a)]) 10 20 0 (.fn 40) [.agg (I y::I S::nL a),I O,I d,.ptr (.own 3 0),.ptr (.own 10 0),.ptr (.own 1 0),.ptr (.own 6 0)] ⟨12,nsB1.zip (BP1 l t [D0] Y M es)⟩ (fun r h=>Q r h) =
 (∃ (M_1:Mde),∃ (es_1:Lst),FitP 0 (VH.mk (20) ((19,VB.fam [] (6) (fun (_:Nat)=>(0:Int)) 80)::(18,VB.loop true none [(16,VV.func 74 [] [VV.ptr (.own (16) 0),VV.ptr (.own (17) 0)]),(15,VV.agg [I ((f6 a) (0+0)),I ((f6 a) (0+1)),I ((f6 a) (0+2)),I ((f6 a) (0+3)),I ((f6 a) (0+4)),I ((f6 a) (0+5))]),(14,VV.ptr (.own (12) (2))),(13,VV.ptr (.own 2 0)),(10,VV.ptr (.own (15) 0)),(9,VV.ptr (.own (14) 0)),(8,VV.ptr (.own (13) 0)),(7,VV.ptr (.own (12) 0)),(0,VV.agg (I y::I S::nL a)),(1,I (↑O:Int)),(2,I d),(3,VV.ptr (.own 3 0)),(4,VV.ptr (.own 10 0)),(5,VV.ptr (.own 1 0)),(6,VV.ptr (.own 6 0))] 58 [17] asFo bdFo)::(17,VB.fam [] (6) (fun (k:Nat)=>[(f6 a) (0+0),(f6 a) (0+1),(f6 a) (0+2),(f6 a) (0+3),(f6 a) (0+4),(f6 a) (0+5)].getD k (0:Int)) 80)::(16,VB.cells [VV.ptr (.own 2 0)] 72)::(15,VB.cells [VV.bool false] 4)::(14,VB.cells [I d] 3)::(13,VB.cells [I (↑O:Int)] 3)::(12,VB.fam [I y,I S] (6) (f6 a) 82)::nsB1.zip (BP1 l t [D0] Y M es))) [(4,VV.ptr (.own (19) 0)),(0,VV.yld (18)),(1,VV.ptr (.own (16) 0)),(2,VV.ptr (.own (17) 0))] (VH.mk 20 (nsFo1.zip (BFo1 l t [D0] Y y S (↑O:Int) d a M_1 es_1 fun (_:Nat)=>(0:Int)))) (dsC.zip VFo1)/\(y=(↑Y:Int) - (↑(k+1):Int)/\Cfg l t [D0] Y/\PreW l t [D0] Y k O a es_1)/\(∀ (s:St) (n':Nat->Int),PostW l t [D0] Y k O d a M_1 false s->Q (.ret (.bool false)) (VH.mk 20 [(15,VB.cells [VV.bool false] 4),(18,VB.gone),(0,VB.cells [VV.tl t.T.length 1 (dG t.T),I t.far,I t.least] 25),(1,VB.cells [VV.tl [D0].length 1 (pthG [D0])] 26),(2,VB.cells (stD l::tsL t) 74),(3,VB.cells [VV.ptr (.own 2 0)] 72),(4,VB.cells [I (↑Y:Int)] 3),(5,VB.cells [sFa 7 Y] 76),(6,VB.cells [VV.slice (.own 5 0) 1 1] 75),(7,VB.fam [] (Y*6) (s.M 0) 80),(8,VB.map kS PK.bool s.es),(9,VB.cells [VV.mp 8] 77),(10,VB.cells [VV.func 44 [] [VV.ptr (.own 4 0),VV.ptr (.own 9 0),VV.ptr (.own 1 0),VV.ptr (.own 11 0)]] 78),(11,VB.cells [VV.func 40 [] [VV.ptr (.own 3 0),VV.ptr (.own 10 0),VV.ptr (.own 1 0),VV.ptr (.own 6 0)]] 88),(12,VB.fam [I y,I S] 6 (fun (k:Nat)=>(ch a).getD k (0:Int)) 82),(13,VB.cells [I (↑O:Int)] 3),(14,VB.cells [I d] 3),(15,VB.cells [VV.bool false] 4),(16,VB.cells [VV.ptr (.own 2 0)] 72),(17,VB.fam [] 6 (fun (k:Nat)=>(ch a).getD k (0:Int)) 80),(18,VB.loop true none (slFo1 y S (↑O:Int) d a) 58 [17] asFo bdFo),(19,VB.fam [] 6 n' 80)]))/\∀ (s:St) (n':Nat->Int),PostW l t [D0] Y k O d a M_1 true s->Q (.ret (.bool true)) (VH.mk 20 [(18,VB.gone),(0,VB.cells [VV.tl t.T.length 1 (dG t.T),I t.far,I t.least] 25),(1,VB.cells [VV.tl [D0].length 1 (pthG [D0])] 26),(2,VB.cells (stD l::tsL t) 74),(3,VB.cells [VV.ptr (.own 2 0)] 72),(4,VB.cells [I (↑Y:Int)] 3),(5,VB.cells [sFa 7 Y] 76),(6,VB.cells [VV.slice (.own 5 0) 1 1] 75),(7,VB.fam [] (Y*6) (s.M 0) 80),(8,VB.map kS PK.bool s.es),(9,VB.cells [VV.mp 8] 77),(10,VB.cells [VV.func 44 [] [VV.ptr (.own 4 0),VV.ptr (.own 9 0),VV.ptr (.own 1 0),VV.ptr (.own 11 0)]] 78),(11,VB.cells [VV.func 40 [] [VV.ptr (.own 3 0),VV.ptr (.own 10 0),VV.ptr (.own 1 0),VV.ptr (.own 6 0)]] 88),(12,VB.fam [I y,I S] 6 (fun (k:Nat)=>(ch a).getD k (0:Int)) 82),(13,VB.cells [I (↑O:Int)] 3),(14,VB.cells [I d] 3),(15,VB.cells [VV.bool true] 4),(16,VB.cells [VV.ptr (.own 2 0)] 72),(17,VB.fam [] 6 (fun (k:Nat)=>(ch a).getD k (0:Int)) 80),(18,VB.loop false (some VEx.ret) (slFo1 y S (↑O:Int) d a) 58 [17] asFo bdFo),(19,VB.fam [] 6 n' 80)])):=by kernel_rfl
def dsF1:List Nat:=[7,6,5,0,1,2,3,4]
def VF1 (y S:Int) (a:Nat->Int) (r:Int):List VV:=[I r,.bool false,.ptr (.own 12 0),.agg (I y::I S::nL a),.ptr (.own 4 0),.ptr (.own 9 0),.ptr (.own 1 0),.ptr (.own 11 0)]
def nsF1:List Nat:=[0,1,2,3,4,5,6,7,8,9,10,11,12]
def BF1 (l:List Stk) (t:Tst) (P:List (List Int)) (Y:Nat) (y S:Int) (a:Nat->Int) (M:Mde) (es:Lst):List VB:=BP1 l t P Y M es ++ [faS y S a]
def dsG1:List Nat:=[25,24,23,9,8] ++ dsF1
def VG1 (P:List (List Int)) (y S:Int) (a:Nat->Int) (r i d o:Int):List VV:=[I i,I P.length,pthD P,I d,I o] ++ VF1 y S a r
theorem gi1_ev (l:List Stk) (t:Tst) (P:List (List Int)) (Y:Nat) (M:Mde) (es:Lst) (y S i d:Int) (o r:Nat) (a:Nat->Int) (X:VEx->List VV->List VB->Prop):codeE Try.prog (callN Try.prog noSpec noL 10 20) (fun _=>none) true 10 (ntOf Try.prog 44) 0 (loopB 2 (bodyOf Try.prog 44)) (dsG1.zip (VG1 P y S a r i d o)) ⟨13,nsF1.zip (BF1 l t P Y y S a M es)⟩ (obs 13 dsG1 nsF1 X) =
 (let z1:=[VB.cells [VV.tl t.T.length 1 (dG t.T),I t.far,I t.least] 25,VB.cells [VV.tl P.length 1 (pthG P)] 26,VB.cells (stD l::tsL t) 74,VB.cells [VV.ptr (.own 2 0)] 72,VB.cells [I (↑Y:Int)] 3,VB.cells [sFa 7 Y] 76,VB.cells [VV.slice (.own 5 0) 1 1] 75,VB.fam [] (Y*6) (M 0) 80,VB.map kS PK.bool es,VB.cells [VV.mp 8] 77,VB.cells [VV.func 44 [] [VV.ptr (.own 4 0),VV.ptr (.own 9 0),VV.ptr (.own 1 0),VV.ptr (.own 11 0)]] 78,VB.cells [VV.func 40 [] [VV.ptr (.own 3 0),VV.ptr (.own 10 0),VV.ptr (.own 1 0),VV.ptr (.own 6 0)]] 88,VB.fam [I y,I S] 6 (fun (k:Nat)=>(ch a).getD k (0:Int)) 82];
 let z2:=[I (i+(1:Int)),I (↑P.length:Int),VV.tl P.length 1 (pthG P),I ((P.getD i.toNat []).getD y.toNat (0:Int)),I (IntKind.i64.wrap (↑(BitVec.ofInt IntKind.i64.bits (↑o:Int) ||| BitVec.ofInt IntKind.i64.bits ((1:Int)*(2:Int) ^ min i.toNat IntKind.i64.bits)).toNat:Int)),I (↑r:Int),VV.bool false,VV.ptr (.own 12 0),VV.agg [I y,I S,I (a 0),I (a 1),I (a 2),I (a 3),I (a 4),I (a 5)],VV.ptr (.own 4 0),VV.ptr (.own 9 0),VV.ptr (.own 1 0),VV.ptr (.own 11 0)];
 let z3:=[I (i+(1:Int)),I (↑P.length:Int),VV.tl P.length 1 (pthG P),I d,I (↑o:Int),I (↑r:Int),VV.bool false,VV.ptr (.own 12 0),VV.agg [I y,I S,I (a 0),I (a 1),I (a 2),I (a 3),I (a 4),I (a 5)],VV.ptr (.own 4 0),VV.ptr (.own 9 0),VV.ptr (.own 1 0),VV.ptr (.own 11 0)];
 (bif decide (i<(↑P.length:Int)) then
 bif decide ((0:Int)<=i/\i<(↑P.length:Int)) then
 bif decide (i<(0:Int)) then
 False
 else bif decide (IntKind.i64.wrap (↑(BitVec.ofInt IntKind.i64.bits ((↑r:Int).fdiv ((2:Int) ^ min i.toNat IntKind.i64.bits)) &&& BitVec.ofInt IntKind.i64.bits (1:Int)).toNat:Int)=(1:Int)) then
 bif decide (d<(0:Int)) then
 bif decide (i<(0:Int)) then
 False
 else bif inK .i64 ((1:Int)*(2:Int) ^ min i.toNat IntKind.i64.bits) then
 bif decide ((0:Int)<=y/\y<(↑(P.getD i.toNat []).length:Int)) then
 bif inK .i64 (i+(1:Int)) then
 X .normal z2 z1
 else False
 else False
 else False
 else bif decide ((0:Int)<=y/\y<(↑(P.getD i.toNat []).length:Int)) then
 bif decide ((P.getD i.toNat []).getD y.toNat (0:Int)=d) then
 bif decide (i<(0:Int)) then
 False
 else bif inK .i64 ((1:Int)*(2:Int) ^ min i.toNat IntKind.i64.bits) then
 bif decide ((0:Int)<=y/\y<(↑(P.getD i.toNat []).length:Int)) then
 bif inK .i64 (i+(1:Int)) then
 X .normal z2 z1
 else False
 else False
 else False
 else bif inK .i64 (i+(1:Int)) then
 X .normal z3 z1
 else False
 else False
 else bif inK .i64 (i+(1:Int)) then
 X .normal z3 z1
 else False
 else False
 else X (.exit 2) [I i,I (↑P.length:Int),VV.tl P.length 1 (pthG P),I d,I (↑o:Int),I (↑r:Int),VV.bool false,VV.ptr (.own 12 0),VV.agg [I y,I S,I (a 0),I (a 1),I (a 2),I (a 3),I (a 4),I (a 5)],VV.ptr (.own 4 0),VV.ptr (.own 9 0),VV.ptr (.own 1 0),VV.ptr (.own 11 0)] z1)):=by kernel_rfl
def lG1 (l:List Stk) (t:Tst) (P:List (List Int)) (Y k:Nat) (y S:Int) (a:Nat->Int) (r:Nat):LT:=fun lock tt h K=>
 ∃ M es,FitP lock h tt ⟨13,nsF1.zip (BF1 l t P Y y S a M es)⟩ (dsG1.zip (VG1 P y S a r 0 (-1) 0))/\(y=((Y - (k+1):Nat):Int)/\k+1<=Y/\Cfg l t P Y/\r<16)/\∀ o d,grpF P (Y - (k+1)) r P.length=(o,d)->K .normal (dsG1.zip (VG1 P y S a r P.length d o)) ⟨13,nsF1.zip (BF1 l t P Y y S a M es)⟩
theorem gm1_ev (l:List Stk) (t:Tst) (D0:List Int) (Y k:Nat) (M:Mde) (es:Lst) (y:Int) (S r:Nat) (a:Nat->Int) (X:VEx->List VV->List VB->Prop):codeE Try.prog (callN Try.prog (tabS [folR1 l t [D0] Y k]) noL 10 20) (tabB [(2,lG1 l t [D0] Y k y S a r)]) true 10 (ntOf Try.prog 44) 0 (loopB 0 (bodyOf Try.prog 44)) (dsF1.zip (VF1 y S a r)) ⟨13,nsF1.zip (BF1 l t [D0] Y y S a M es)⟩ (obs 13 dsF1 nsF1 X) =
 (let z1:=(fun (k:Nat)=>(ch a).getD k (0:Int));
 let z2:=[I (↑r:Int),VV.bool false,VV.ptr (.own 12 0),VV.agg [I y,I (↑S:Int),I (a 0),I (a 1),I (a 2),I (a 3),I (a 4),I (a 5)],VV.ptr (.own 4 0),VV.ptr (.own 9 0),VV.ptr (.own 1 0),VV.ptr (.own 11 0)];
 let z3:=[VV.func 44 [] [VV.ptr (.own 4 0),VV.ptr (.own 9 0),VV.ptr (.own 1 0),VV.ptr (.own 11 0)]];
 let z4:=[VV.func 40 [] [VV.ptr (.own 3 0),VV.ptr (.own 10 0),VV.ptr (.own 1 0),VV.ptr (.own 6 0)]];
 (bif decide ((↑r:Int) > (0:Int)) then
 ∃ (M_1:Mde),∃ (es_1:Lst),FitP 0 (VH.mk 13 (nsF1.zip (BF1 l t [D0] Y y (↑S:Int) a M es))) ((25,I 0)::(24,I (↑[D0].length:Int))::(23,VV.tl [D0].length 1 (pthG [D0]))::(9,I (-1))::(8,I 0)::(22,VV.bool true)::(22,VV.bool (decide ((↑r:Int) > (0:Int))))::(21,I (↑r:Int))::dsF1.zip (VF1 y (↑S:Int) a (↑r:Int))) (VH.mk 13 (nsF1.zip (BF1 l t [D0] Y y (↑S:Int) a M_1 es_1))) (dsG1.zip (VG1 [D0] y (↑S:Int) a (↑r:Int) (0:Int) (-1:Int) (0:Int)))/\(y=(↑(Y - (k+1)):Int)/\k+1<=Y/\Cfg l t [D0] Y/\r<16)/\∀ (o:Nat) (d:Int),grpF [D0] (Y - (k+1)) r [D0].length=(o,d)->∃ (S':Nat),∃ (O:Nat),∃ (a_2:Nat->Int),∃ (M:Mde),∃ (es:Lst),(VV.ptr (.own 3 0)=VV.ptr (.own 3 0)/\VV.ptr (.own 10 0)=VV.ptr (.own 10 0)/\VV.ptr (.own 1 0)=VV.ptr (.own 1 0)/\VV.ptr (.own 6 0)=VV.ptr (.own 6 0))/\(0=0/\12<=13)/\atL nsB1 (BP1 l t [D0] Y M es) (VH.mk 13 (nsF1.zip (BF1 l t [D0] Y y (↑S:Int) a M_1 es_1)))/\(y=(↑Y:Int) - (↑(k+1):Int)/\(↑S:Int)=(↑S':Int)/\(↑o:Int)=(↑O:Int)/\[I (z1 (0+0)),I (z1 (0+1)),I (z1 (0+2)),I (z1 (0+3)),I (z1 (0+4)),I (z1 (0+5))]=nL a_2)/\PreW l t [D0] Y k O a_2 es/\∀ (b:Bool) (s:St),PostW l t [D0] Y k O d a_2 M b s->bif !b then
 KeyLaw Try.prog 82 kS/\X .ret z2 [VB.cells [VV.tl t.T.length 1 (dG t.T),I t.far,I t.least] 25,VB.cells [VV.tl [D0].length 1 (pthG [D0])] 26,VB.cells (stD l::tsL t) 74,VB.cells [VV.ptr (.own 2 0)] 72,VB.cells [I (↑Y:Int)] 3,VB.cells [sFa 7 Y] 76,VB.cells [VV.slice (.own 5 0) 1 1] 75,VB.fam [] (Y*6) (s.M 0) 80,VB.map kS PK.bool (setE s.es [y,(↑S:Int),z1 (0+0),z1 (0+1),z1 (0+2),z1 (0+3),z1 (0+4),z1 (0+5)] (bif true then
 (1:Int)
 else (0:Int))),VB.cells [VV.mp 8] 77,VB.cells z3 78,VB.cells z4 88,VB.fam [I y,I (↑S:Int)] 6 z1 82]
 else X .normal [I (IntKind.i64.wrap (↑(BitVec.ofInt IntKind.i64.bits (↑r:Int) &&& ~~~BitVec.ofInt IntKind.i64.bits (↑o:Int)).toNat:Int)),VV.bool false,VV.ptr (.own 12 0),VV.agg [I y,I (↑S:Int),I (a 0),I (a 1),I (a 2),I (a 3),I (a 4),I (a 5)],VV.ptr (.own 4 0),VV.ptr (.own 9 0),VV.ptr (.own 1 0),VV.ptr (.own 11 0)] [VB.cells [VV.tl t.T.length 1 (dG t.T),I t.far,I t.least] 25,VB.cells [VV.tl [D0].length 1 (pthG [D0])] 26,VB.cells (stD l::tsL t) 74,VB.cells [VV.ptr (.own 2 0)] 72,VB.cells [I (↑Y:Int)] 3,VB.cells [sFa 7 Y] 76,VB.cells [VV.slice (.own 5 0) 1 1] 75,VB.fam [] (Y*6) (s.M 0) 80,VB.map kS PK.bool s.es,VB.cells [VV.mp 8] 77,VB.cells z3 78,VB.cells z4 88,VB.fam [I y,I (↑S:Int)] 6 z1 82]
 else X (.exit 0) z2 [VB.cells [VV.tl t.T.length 1 (dG t.T),I t.far,I t.least] 25,VB.cells [VV.tl [D0].length 1 (pthG [D0])] 26,VB.cells (stD l::tsL t) 74,VB.cells [VV.ptr (.own 2 0)] 72,VB.cells [I (↑Y:Int)] 3,VB.cells [sFa 7 Y] 76,VB.cells [VV.slice (.own 5 0) 1 1] 75,VB.fam [] (Y*6) (M 0) 80,VB.map kS PK.bool es,VB.cells [VV.mp 8] 77,VB.cells z3 78,VB.cells z4 88,VB.fam [I y,I (↑S:Int)] 6 z1 82])):=by kernel_rfl
def lFi1 (l:List Stk) (t:Tst) (P:List (List Int)) (Y k:Nat) (y:Int) (S:Nat) (a:Nat->Int):LT:=fun lock tt h K=>
 ∃ M es,FitP lock h tt ⟨13,nsF1.zip (BF1 l t P Y y S a M es)⟩ (dsF1.zip (VF1 y S a S))/\(y=(Y:Int) - (k+1:Nat)/\Cfg l t P Y/\PreF l t P Y (k+1) S a es)/\(∀ s,PostF l t P Y (k+1) S a M true s->K .normal (dsF1.zip (VF1 y S a 0)) ⟨13,nsF1.zip (BF1 l t P Y y S a s.M s.es)⟩) /\
  ∀ s (r:Int),PostF l t P Y (k+1) S a M false s->K .ret (dsF1.zip (VF1 y S a r)) ⟨13,nsF1.zip (BF1 l t P Y y S a s.M s.es)⟩
theorem fib1_ev (l:List Stk) (t:Tst) (D0:List Int) (Y k:Nat) (M:Mde) (es:Lst) (y:Int) (S:Nat) (a:Nat->Int) (Q:VRes->VH->Prop):callN Try.prog noSpec (atF 44 [(0,lFi1 l t [D0] Y k y S a)]) 10 20 0 (.fn 44) [.agg (I y::I S::nL a),.ptr (.own 4 0),.ptr (.own 9 0),.ptr (.own 1 0),.ptr (.own 11 0)] ⟨12,nsB1.zip (BP1 l t [D0] Y M es)⟩ (fun r h=>Q r h) =
 (let z2:=(10,VB.cells [VV.func 44 [] [VV.ptr (.own 4 0),VV.ptr (.own 9 0),VV.ptr (.own 1 0),VV.ptr (.own 11 0)]] 78);
 let z3:=(11,VB.cells [VV.func 40 [] [VV.ptr (.own 3 0),VV.ptr (.own 10 0),VV.ptr (.own 1 0),VV.ptr (.own 6 0)]] 88);
 let z1:=(VH.mk (13) [(12,VB.fam [I y,I (↑S:Int)] (6) (f6 a) 82),(0,VB.cells [VV.tl t.T.length 1 (dG t.T),I t.far,I t.least] 25),(1,VB.cells [VV.tl [D0].length 1 (pthG [D0])] 26),(2,VB.cells (stD l::tsL t) 74),(3,VB.cells [VV.ptr (.own 2 0)] 72),(4,VB.cells [I (↑Y:Int)] 3),(5,VB.cells [sFa 7 Y] 76),(6,VB.cells [VV.slice (.own 5 0) 1 1] 75),(7,VB.fam [] (Y*6) (M 0) 80),(8,VB.map kS PK.bool es),(9,VB.cells [VV.mp 8] 77),z2,z3]);
 (bif decide (y=(↑Y:Int)) then
 Q (.ret (.bool true)) z1
 else KeyLaw Try.prog 82 kS/\bif decide (valOf es [y,(↑S:Int),(f6 a) (0+0),(f6 a) (0+1),(f6 a) (0+2),(f6 a) (0+3),(f6 a) (0+4),(f6 a) (0+5)]=(1:Int)) then
 Q (.ret (.bool false)) z1
 else ∃ (M_1:Mde),∃ (es_1:Lst),FitP 0 (VH.mk (13) ((12,VB.fam [I y,I (↑S:Int)] (6) (f6 a) 82)::nsB1.zip (BP1 l t [D0] Y M es))) [(7,I (↑S:Int)),(20,I (↑S:Int)),(19,VV.ptr (.own (12) (1))),(18,VV.bool false),(18,VV.bool (decide (valOf es [y,(↑S:Int),(f6 a) (0+0),(f6 a) (0+1),(f6 a) (0+2),(f6 a) (0+3),(f6 a) (0+4),(f6 a) (0+5)]=(1:Int)))),(17,VV.agg [I y,I (↑S:Int),I ((f6 a) (0+0)),I ((f6 a) (0+1)),I ((f6 a) (0+2)),I ((f6 a) (0+3)),I ((f6 a) (0+4)),I ((f6 a) (0+5))]),(16,VV.mp 8),(15,VV.bool false),(15,VV.bool (decide (y=(↑Y:Int)))),(14,I (↑Y:Int)),(13,I y),(12,VV.ptr (.own (12) 0)),(6,VV.bool false),(5,VV.ptr (.own (12) 0)),(0,VV.agg (I y::I (↑S:Int)::nL a)),(1,VV.ptr (.own 4 0)),(2,VV.ptr (.own 9 0)),(3,VV.ptr (.own 1 0)),(4,VV.ptr (.own 11 0))] (VH.mk 13 (nsF1.zip (BF1 l t [D0] Y y (↑S:Int) a M_1 es_1))) (dsF1.zip (VF1 y (↑S:Int) a (↑S:Int)))/\(y=(↑Y:Int) - (↑(k+1):Int)/\Cfg l t [D0] Y/\PreF l t [D0] Y (k+1) S a es_1)/\(∀ (s:St),PostF l t [D0] Y (k+1) S a M_1 true s->Q (.ret (.bool true)) (VH.mk 13 [(0,VB.cells [VV.tl t.T.length 1 (dG t.T),I t.far,I t.least] 25),(1,VB.cells [VV.tl [D0].length 1 (pthG [D0])] 26),(2,VB.cells (stD l::tsL t) 74),(3,VB.cells [VV.ptr (.own 2 0)] 72),(4,VB.cells [I (↑Y:Int)] 3),(5,VB.cells [sFa 7 Y] 76),(6,VB.cells [VV.slice (.own 5 0) 1 1] 75),(7,VB.fam [] (Y*6) (s.M 0) 80),(8,VB.map kS PK.bool s.es),(9,VB.cells [VV.mp 8] 77),z2,z3,(12,VB.fam [I y,I (↑S:Int)] 6 (fun (k:Nat)=>(ch a).getD k (0:Int)) 82)]))/\∀ (s:St) (r:Int),PostF l t [D0] Y (k+1) S a M_1 false s->Q (.ret (.bool false)) (VH.mk 13 [(0,VB.cells [VV.tl t.T.length 1 (dG t.T),I t.far,I t.least] 25),(1,VB.cells [VV.tl [D0].length 1 (pthG [D0])] 26),(2,VB.cells (stD l::tsL t) 74),(3,VB.cells [VV.ptr (.own 2 0)] 72),(4,VB.cells [I (↑Y:Int)] 3),(5,VB.cells [sFa 7 Y] 76),(6,VB.cells [VV.slice (.own 5 0) 1 1] 75),(7,VB.fam [] (Y*6) (s.M 0) 80),(8,VB.map kS PK.bool s.es),(9,VB.cells [VV.mp 8] 77),z2,z3,(12,VB.fam [I y,I (↑S:Int)] 6 (fun (k:Nat)=>(ch a).getD k (0:Int)) 82)]))):=by kernel_rfl
theorem fiz1_ev (l:List Stk) (t:Tst) (D0:List Int) (Y:Nat) (M:Mde) (es:Lst) (y:Int) (S:Nat) (a:Nat->Int) (Q:VRes->VH->Prop):callN Try.prog noSpec (atF 44 [(0,lZ)]) 10 20 0 (.fn 44) [.agg (I y::I S::nL a),.ptr (.own 4 0),.ptr (.own 9 0),.ptr (.own 1 0),.ptr (.own 11 0)] ⟨12,nsB1.zip (BP1 l t [D0] Y M es)⟩ (fun r h=>Q r h) =
 (bif decide (y=(↑Y:Int)) then
 Q (.ret (.bool true)) (VH.mk (13) [(12,VB.fam [I y,I (↑S:Int)] (6) (f6 a) 82),(0,VB.cells [VV.tl t.T.length 1 (dG t.T),I t.far,I t.least] 25),(1,VB.cells [VV.tl [D0].length 1 (pthG [D0])] 26),(2,VB.cells (stD l::tsL t) 74),(3,VB.cells [VV.ptr (.own 2 0)] 72),(4,VB.cells [I (↑Y:Int)] 3),(5,VB.cells [sFa 7 Y] 76),(6,VB.cells [VV.slice (.own 5 0) 1 1] 75),(7,VB.fam [] (Y*6) (M 0) 80),(8,VB.map kS PK.bool es),(9,VB.cells [VV.mp 8] 77),(10,VB.cells [VV.func 44 [] [VV.ptr (.own 4 0),VV.ptr (.own 9 0),VV.ptr (.own 1 0),VV.ptr (.own 11 0)]] 78),(11,VB.cells [VV.func 40 [] [VV.ptr (.own 3 0),VV.ptr (.own 10 0),VV.ptr (.own 1 0),VV.ptr (.own 6 0)]] 88)])
 else KeyLaw Try.prog 82 kS/\bif decide (valOf es [y,(↑S:Int),(f6 a) (0+0),(f6 a) (0+1),(f6 a) (0+2),(f6 a) (0+3),(f6 a) (0+4),(f6 a) (0+5)]=(1:Int)) then
 Q (.ret (.bool false)) (VH.mk (13) [(12,VB.fam [I y,I (↑S:Int)] (6) (f6 a) 82),(0,VB.cells [VV.tl t.T.length 1 (dG t.T),I t.far,I t.least] 25),(1,VB.cells [VV.tl [D0].length 1 (pthG [D0])] 26),(2,VB.cells (stD l::tsL t) 74),(3,VB.cells [VV.ptr (.own 2 0)] 72),(4,VB.cells [I (↑Y:Int)] 3),(5,VB.cells [sFa 7 Y] 76),(6,VB.cells [VV.slice (.own 5 0) 1 1] 75),(7,VB.fam [] (Y*6) (M 0) 80),(8,VB.map kS PK.bool es),(9,VB.cells [VV.mp 8] 77),(10,VB.cells [VV.func 44 [] [VV.ptr (.own 4 0),VV.ptr (.own 9 0),VV.ptr (.own 1 0),VV.ptr (.own 11 0)]] 78),(11,VB.cells [VV.func 40 [] [VV.ptr (.own 3 0),VV.ptr (.own 10 0),VV.ptr (.own 1 0),VV.ptr (.own 6 0)]] 88)])
 else False):=by kernel_rfl
section
variable {l:List Stk} {t:Tst} {P:List (List Int)} {Y k:Nat} {y S d:Int} {own:Int} {a:Nat->Int}
noncomputable def OJ1 (l:List Stk) (t:Tst) (P:List (List Int)) (Y:Nat) (y S own d:Int) (a:Nat->Int) (s:(Mde × Lst) × Nat × (Nat->Int)) (e:VEx) (vs:List VV) (bs:List VB):Prop:=
 e=.exit 2/\vs=VFi1 ((scanC a s.2.1 s.2.2).1 - 1)/\bs=BFo1 l t P Y y S own d a s.1.1 s.1.2 (scanC a s.2.1 s.2.2).2
theorem lIo1_ok:LSound Try.prog true (.block 2 (.loop (loopB 2 (bodyOf Try.prog 74)))) (ntOf Try.prog 74) (lIo1 l t P Y y S own d a):=by
 by_cases hn:l.length<=6
 ·refine loop_row hmix good0 (un:=10) (ds:=dsI) (ns:=nsFo1) (nx:=21) (fun s:(Mde × Lst) × Nat × (Nat->Int)=>VFi1 (s.2.1 - 1)) (fun s=>BFo1 l t P Y y S own d a s.1.1 s.1.2 s.2.2) (fun s=>s.2.1<=l.length) (fun s=>s.2.1) (OJ1 l t P Y y S own d a) noL_ok ?_ ?_
  ·rintro ⟨⟨M,es⟩,k,n⟩ h0
   dsimp only at h0 ⊢
   refine cast (ino1_ev l t P Y y S own d (k - 1) a M es n _).symm ?_
   cases k with
   | zero=>exact cond_d (fun h=>by omega) (fun _=>⟨rfl,rfl,rfl⟩)
   | succ k=>
    have e:(((k+1:Nat):Int) - 1)=(k:Int):=by omega
    rw [e]
    have e2:(k:Int).toNat*1=k:=by omega
    rw [e2,show (fun k=>(ch a).getD k (0:Int)) k=a k from ch_get (by omega)]
    refine cond_d (fun _=>?_) (fun h=>by omega)
    refine cond_dk ⟨by omega,by omega⟩ (cond_dk (by omega) (cond_dk ⟨by omega,by omega⟩ (cond_dk (by omega) (cond_d (fun g=>cond_dk ⟨by omega,by omega⟩ (cond_dk (by omega) (cond_r (by omega) ?_))) (fun g=>?_)))))
    ·refine ⟨((M,es),k,setC n k 0),?_,?_,rfl,fitBs_refl _,fun e vs bs he=>?_⟩
     ·show k<=_; omega
     ·show k<k+1; omega
     ·have hs:scanC a (k+1) n=scanC a k (setC n k 0):=by
       show (if _ then _ else _)=_
       rw [if_pos g]
      obtain ⟨h1,h2,h3⟩:=he
      refine ⟨h1,?_,?_⟩
      ·rw [h2]; dsimp only; rw [hs]
      ·rw [h3]; dsimp only; rw [hs]
    ·have hs:scanC a (k+1) n=(k+1,n):=by
      show (if _ then _ else _)=_
      rw [if_neg g]
     refine ⟨rfl,?_,?_⟩
     ·dsimp only; rw [hs]; dsimp only; rw [e]; rfl
     ·dsimp only; rw [hs]
  ·rintro lock tt h K ⟨M,es,n,hf,_,k1⟩
   refine ⟨((M,es),l.length,n),hf,Nat.le_refl _,?_⟩
   rintro e vs bs ⟨rfl,rfl,rfl⟩
   exact k1 _ _ rfl
 ·rintro lock tt h K ⟨M,es,n,hf,hc,_⟩
  exact (hn hc).elim
theorem lG1_ok {r:Nat}:LSound Try.prog true (.block 2 (.loop (loopB 2 (bodyOf Try.prog 44)))) (ntOf Try.prog 44) (lG1 l t P Y k y S a r):=by
 by_cases hh:y=((Y - (k+1):Nat):Int)/\k+1<=Y/\Cfg l t P Y/\r<16
 ·obtain ⟨hy,hk,cf,hr⟩:=hh
  have hp4:=cf.P4
  refine loop_row hmix good0 (un:=10) (ds:=dsG1) (ns:=nsF1) (nx:=13) (fun s:(Mde × Lst) × Nat=>VG1 P y S a r s.2 (grpF P (Y - (k+1)) r s.2).2 (grpF P (Y - (k+1)) r s.2).1) (fun s=>BF1 l t P Y y S a s.1.1 s.1.2) (fun s=>s.2<=P.length) (fun s=>P.length - s.2)
   (fun s e vs bs=>e=.exit 2/\vs=VG1 P y S a r P.length (grpF P (Y - (k+1)) r P.length).2 (grpF P (Y - (k+1)) r P.length).1/\bs=BF1 l t P Y y S a s.1.1 s.1.2) noL_ok ?_ ?_
  ·rintro ⟨⟨M,es⟩,i⟩ h0
   dsimp only at h0 ⊢
   refine cast (gi1_ev l t P Y M es y S i _ _ r a _).symm ?_
   have hgb:=grpF_le cf.nd (Y - (k+1)) r i
   have hs:grpF P (Y - (k+1)) r (i+1)=if r.testBit i/\((grpF P (Y - (k+1)) r i).2<0 ∨ (P.getD i []).getD (Y - (k+1)) 0=(grpF P (Y - (k+1)) r i).2) then ((grpF P (Y - (k+1)) r i).1 ||| 2 ^ i,(P.getD i []).getD (Y - (k+1)) 0) else grpF P (Y - (k+1)) r i:=rfl
   have h16:(grpF P (Y - (k+1)) r i).1<16:=Nat.lt_of_lt_of_le hgb (Nat.pow_le_pow_right (n:=2) (by omega) (show i<=4 by omega))
   generalize hRQ:RoundQ (σ:=(Mde × Lst) × Nat) _ _ _ _ _ ((M,es),i)=RQ
   have fin:∀ (o':Nat) (d':Int),grpF P (Y - (k+1)) r (i+1)=(o',d')->i<P.length->RQ .normal (VG1 P y S a r ((i:Int)+1) d' o') (BF1 l t P Y y S a M es):=by
    intro o' d' he hlt
    rw [<- hRQ]
    refine ⟨((M,es),i+1),?_,?_,?_,fitBs_refl _,fun _ _ _ h=>h⟩
    ·show i+1<=_; omega
    ·show P.length - (i+1)<P.length - i; omega
    ·dsimp only; rw [he]; rfl
   generalize hg:grpF P (Y - (k+1)) r i=g at hs h16 ⊢
   obtain ⟨o,dd⟩:=g
   dsimp only at hs h16 ⊢
   by_cases hlt:i<P.length
   ·have hidx:(0:Int)<=y/\y<((P.getD i []).length:Nat):=by rw [cf.len i hlt]; omega
    have hi4:i<4:=by omega
    have hpow:(1:Int)*(2:Int) ^ min i IntKind.i64.bits<=8/\0<=(1:Int)*(2:Int) ^ min i IntKind.i64.bits:=by
     match i,hi4 with
     | 0,_=>exact ⟨by decide,by decide⟩
     | 1,_=>exact ⟨by decide,by decide⟩
     | 2,_=>exact ⟨by decide,by decide⟩
     | 3,_=>exact ⟨by decide,by decide⟩
    have ey:y.toNat=Y - (k+1):=by omega
    refine cond_dk (by omega) (cond_dk ⟨by omega,by omega⟩ (cond_d (fun h=>by omega) (fun _=>?_)))
    rw [show (i:Int).toNat=i by omega,ey,or_v o h16 i hi4]
    refine cond_d (fun b=>?_) (fun b=>?_)
    ·have b:=(bit_v r hr i hi4).1 b
     refine cond_d (fun g1=>cond_d (fun h=>by omega) (fun _=>cond_r (by omega) (cond_dk hidx (cond_r (by omega) (fin _ _ ?_ hlt))))) (fun g1=>cond_dk hidx (cond_d (fun g2=>cond_d (fun h=>by omega) (fun _=>cond_r (by omega) (cond_dk hidx (cond_r (by omega) (fin _ _ ?_ hlt))))) (fun g2=>cond_r (by omega) (fin _ _ ?_ hlt))))
     ·rw [hs,if_pos ⟨b,.inl g1⟩]
     ·rw [hs,if_pos ⟨b,.inr g2⟩]
     ·rw [hs,if_neg (fun h=>h.2.elim g1 g2)]
    ·have b:¬ r.testBit i=true:=fun h=>b ((bit_v r hr i hi4).2 h)
     refine cond_r (by omega) (fin _ _ ?_ hlt)
     rw [hs,if_neg (fun h=>b h.1)]
   ·obtain rfl:i=P.length:=by omega
    refine cond_d (fun h=>by omega) (fun _=>?_)
    rw [<- hRQ]
    refine ⟨rfl,?_,rfl⟩
    rw [hg]; rfl
  ·rintro lock tt h K ⟨M,es,hf,_,k1⟩
   refine ⟨((M,es),0),hf,Nat.zero_le _,?_⟩
   rintro e vs bs ⟨rfl,rfl,rfl⟩
   exact k1 _ _ rfl
 ·rintro lock tt h K ⟨M,es,hf,hc,_⟩
  exact (hh hc).elim
end
section
variable {l:List Stk} {t:Tst} {D0:List Int} {Y k:Nat}
theorem hc61 {h:VH} (h6:(h.at 2).cs? = some (stD l::tsL t,74)):isD h 4 (.ptr (.own 2 0)) (.tp (stD l::tsL t)):=⟨_,_,h6,isD_l,⟨rfl,rfl,fun _ _=>rfl⟩,⟨rfl,rfl⟩,⟨rfl,rfl⟩,trivial⟩
structure WS1 where
 M0:Mde
 j:Nat
 M:Mde
 es:Lst
noncomputable def OW1 (l:List Stk) (t:Tst) (P:List (List Int)) (Y k:Nat) (y S d:Int) (O:Nat) (a:Nat->Int) (s:WS1) (e:VEx) (vs:List VV) (bs:List VB):Prop:=
 e=.ret/\vs=VFo1/\∃ st n',(PostW l t P Y k O d a s.M0 false st/\bs=BFo1 l t P Y y S O d a st.M st.es n') ∨ (PostW l t P Y k O d a s.M0 true st/\bs=BFoT1 l t P Y y S O d a st.M st.es n')
theorem lFo1_ok (hfind:SpOk Try.prog (findR1 l t [D0] Y k).1 (findR1 l t [D0] Y k).2) {y S d:Int} {O:Nat} {a:Nat->Int}:LSound Try.prog true (.block 0 (.loop (loopB 0 (bodyOf Try.prog 74)))) (ntOf Try.prog 74) (lFo1 l t [D0] Y k y S d O a):=by
 by_cases hh:y=(Y:Int) - (k+1:Nat)/\Cfg l t [D0] Y/\k+1<=Y/\O<2 ^ [D0].length/\leftB l a
 ·obtain ⟨hy,cf,hk,hO,ha⟩:=hh
  have hl6:=cf.hl.1
  have hY4:=cf.Y4
  have hm0:∀ i,i<l.length->0<=a i:=fun i hi=>(ha.1 i hi).1
  have hO16:O<16:=Nat.lt_of_lt_of_le hO (Nat.pow_le_pow_right (n:=2) (by omega) (show 1<=4 by omega))
  have htab:∀ f T,tabS [meetsR l t,lessT,findR1 l t [D0] Y k] f=some T->SpOk Try.prog f T:=tab_ok _ (fun x hx=>by
   simp only [List.mem_cons,List.not_mem_nil,or_false] at hx
   rcases hx with rfl | rfl | rfl
   ·exact meetsR_ok l t
   ·exact lessT_ok
   ·exact hfind)
  refine loop_row hmix (noL_good htab) (lsp:=tabB [(2,lIo1 l t [D0] Y y S O d a)]) (un:=10) (ds:=dsC) (ns:=nsFo1) (nx:=20) (fun _:WS1=>VFo1) (fun s=>BFo1 l t [D0] Y y S O d a s.M s.es (chAt a l.length s.j))
   (fun s=>s.j<(allC a l.length).length/\LostOk l t [D0] Y s.es/\Same Y (k+1) O s.M0 s.M/\∀ i,i<s.j->meetsF l t (chAt a l.length i) y d=true->planF l t [D0] Y k O (lsF a (chAt a l.length i) 6)=none) (fun s=>(allC a l.length).length - s.j) (OW1 l t [D0] Y k y S d O a) (lsp_one (by kernel_rfl) lIo1_ok) ?_ ?_
  ·rintro ⟨M0,j,M,es⟩ ⟨hj,hlost,hsame,hbad⟩
   dsimp only at hj hlost hsame hbad
   refine cast (fr1_ev l t D0 Y k M es y S d O a _ _).symm ?_
   have hcm:=chAt_mem (most:=a) (k:=l.length) hj
   obtain ⟨hleft,hbd,hnc⟩:=left_less ha hcm hl6
   have hnx:=scan_nxt (most:=a) l.length (chAt a l.length j)
   have hnext:=chAt_next hm0 hj
   have hsucc:∀ x,meetsF l t (chAt a l.length j) y d=true->planF l t [D0] Y k O (lsF a (chAt a l.length j) 6)=some x->folF l t [D0] Y k a O d=some (chAt a l.length j,x):=fun x g1 g2=>by
    refine tryF_some (c0:=fun _=>0) hj (fun i hi hm=>hbad i hi ?_) ?_ g2
    ·rw [hy]; exact hm
    ·show meetsF l t (chAt a l.length j) _ d=true
     rw [<- hy]; exact g1
   generalize hRQ:RoundQ (σ:=WS1) _ _ _ _ _ ⟨M0,j,M,es⟩=RQ
   generalize hcj:chAt a l.length j=c at hcm hleft hbd hnc hnx hnext hsucc ⊢
   have fin:∀ (M':Mde) (es':Lst),LostOk l t [D0] Y es'->Same Y (k+1) O M0 M'->(meetsF l t c y d=true->planF l t [D0] Y k O (lsF a c 6)=none)->∀ (k2:Nat) (n':Nat->Int),scanC a l.length c=(k2,n') ->
    (bif decide ((k2:Int) - 1<0) then RQ .ret VFo1 (BFo1 l t [D0] Y y S O d a M' es' n')
    else bif decide (0<=(k2:Int) - 1/\(k2:Int) - 1<(6:Nat)) then (bif decide (((k2:Int) - 1).toNat*1<6) then (bif inK .i64 (n' (((k2:Int) - 1).toNat*1)+1) then (bif decide (0<=(k2:Int) - 1/\(k2:Int) - 1<(6:Nat)) then (bif decide (((k2:Int) - 1).toNat*1+1<=6) then
     RQ .normal VFo1 (BFo1 l t [D0] Y y S O d a M' es' (setF n' (((k2:Int) - 1).toNat*1) [n' (((k2:Int) - 1).toNat*1)+1])) else False) else False) else False) else False) else False):=by
    intro M' es' hl' hs' hno k2 n' hk2
    have hbad':∀ i,i<j+1->meetsF l t (chAt a l.length i) y d=true->planF l t [D0] Y k O (lsF a (chAt a l.length i) 6)=none:=fun i hi hm=>by
     by_cases e:i=j
     ·subst e; rw [hcj] at hm ⊢; exact hno hm
     ·exact hbad i (by omega) hm
    rw [hk2] at hnx
    obtain ⟨hk1,hnx⟩:=hnx
    dsimp only at hk1
    cases k2 with
    | zero=>
     dsimp only at hnx
     have hj1:j+1=(allC a l.length).length:=by
      rcases hnext with ⟨h1,_⟩ | ⟨_,h2⟩
      ·exact h1
      ·rw [hnx] at h2; cases h2
     refine cond_d (fun _=>?_) (fun h=>by omega)
     rw [<- hRQ]
     refine ⟨rfl,rfl,⟨M',es'⟩,n',.inl ⟨?_,rfl⟩⟩
     have hf:folF l t [D0] Y k a O d=none:=tryF_none (fun c' hc' hm'=>by
      obtain ⟨i,hi,rfl⟩:=List.getElem_of_mem hc'
      have e:chAt a l.length i=(allC a l.length)[i]:=by
       unfold chAt
       rw [List.getD_eq_getElem?_getD,List.getElem?_eq_getElem hi]; rfl
      rw [<- e]
      refine hbad' i (by omega) ?_
      rw [e,hy]; exact hm')
     exact ⟨by rw [hf]; rfl,hl',hs',fun c' x' he=>by rw [hf] at he; cases he⟩
    | succ k2=>
     dsimp only at hnx
     have e:(((k2+1:Nat):Int) - 1)=(k2:Int):=by omega
     rw [e]
     have e2:(k2:Int).toNat*1=k2:=by omega
     rw [e2]
     obtain ⟨hj1,hch⟩:j+1<(allC a l.length).length/\chAt a l.length (j+1)=setC n' k2 (n' k2+1):=by
      rcases hnext with ⟨_,h2⟩ | ⟨h1,h2⟩
      ·rw [hnx] at h2; cases h2
      ·rw [hnx] at h2
       injection h2 with h2
       exact ⟨h1,h2.symm⟩
     have hb6:=(left_less ha (chAt_mem hj1) hl6).2.2 k2 (by omega)
     rw [hch,setC_same] at hb6
     refine cond_d (fun h=>by omega) (fun _=>cond_dk ⟨by omega,by omega⟩ (cond_dk (by omega) (cond_r (by omega) (cond_dk ⟨by omega,by omega⟩ (cond_dk (by omega) ?_)))))
     rw [<- hRQ]
     refine ⟨⟨M0,j+1,M',es'⟩,⟨hj1,hl',hs',hbad'⟩,?_,rfl,?_,fun _ _ _ h=>h⟩
     ·show (allC a l.length).length - (j+1)<(allC a l.length).length - j
      omega
     ·dsimp only
      rw [hch]
      exact fitBs_refl _
   have hir : -9223372036854775808<=(l.length:Int) - 1/\(l.length:Int) - 1<=9223372036854775807:=by omega
   have hF:∀ (M':Mde) (es':Lst) (h:VH) (tt:Slots),h.nx=21->fitB (nsFo1.zip (BFo1 l t [D0] Y y S O d a M' es' c)) h->fitS (dsI.zip (VFi1 (l.length - 1))) tt->FitP 0 h tt ⟨21,nsFo1.zip (BFo1 l t [D0] Y y S O d a M' es' c)⟩ (dsI.zip (VFi1 (l.length - 1))):=fun _ _ _ _ h1 h2 h3=>⟨⟨rfl,h1,h2⟩,h3⟩
   refine ⟨c,hc61 rfl,rfl,⟨⟨hnc,cf.hl,cf.hp,cf.ht⟩,by omega,by omega⟩,cond_i (fun g=>?_) (fun g=>?_)⟩
   ·have g:meetsF l t c y d=false:=by simpa using g
    refine cond_r hir ⟨M,es,c,hF M es _ _ rfl ?_ ?_,hl6,fin M es hlost hsame (fun h=>by rw [g] at h; cases h)⟩
    ·exact (by repeat (first | exact trivial | refine ⟨VB.fit_refl _,?_⟩))
    ·exact ⟨rfl,rfl,rfl,rfl,rfl,trivial⟩
   ·have g:meetsF l t c y d=true:=by simpa using g
    refine cond_r (by omega) ⟨a,c,rfl,rfl,hbd,O,lsF a c 6,M,es,⟨rfl,rfl,rfl,rfl⟩,⟨rfl,by omega⟩,⟨rfl,rfl,rfl,rfl,rfl,rfl,rfl,rfl,rfl,rfl,rfl,rfl,trivial⟩,⟨by omega,rfl,rfl⟩,⟨by omega,hO,hleft,hlost⟩,?_⟩
    rintro b s ⟨p1,p2,p3,p4⟩
    refine cond_i (fun g2=>?_) (fun g2=>?_)
    ·have g2:b=false:=by simpa using g2
     refine cond_r hir ⟨s.M,s.es,c,hF s.M s.es _ _ rfl ?_ ?_,hl6,fin s.M s.es p2 (hsame.trans p3.later) (fun _=>?_)⟩
     ·exact (by repeat (first | exact trivial | refine ⟨VB.fit_refl _,?_⟩))
     ·exact ⟨rfl,rfl,rfl,rfl,rfl,trivial⟩
     ·rw [g2] at p1
      cases hx:planF l t [D0] Y k O (lsF a c 6) with
      | none=>rfl
      | some x=>rw [hx] at p1; cases p1
    ·have g2:b=true:=by simpa using g2
     subst g2
     obtain ⟨x,hx⟩:∃ x,planF l t [D0] Y k O (lsF a c 6)=some x:=by
      cases hx:planF l t [D0] Y k O (lsF a c 6) with
      | none=>rw [hx] at p1; cases p1
      | some x=>exact ⟨x,rfl⟩
     have hyY:(0:Int)<=y/\y<(Y:Int):=⟨by omega,by omega⟩
     have hyY6:0+y.toNat*6+6<=Y*6:=by omega
     have fin2:∀ M2:Mde,(∀ i,i < [D0].length->M2 i=if O.testBit i=true then wrM (s.M i) y c else s.M i)->(∀ i,[D0].length<=i->M2 i=s.M i)->∀ bs,bs=BFoT1 l t [D0] Y y S O d a M2 s.es c->RQ .ret VFo1 bs:=by
      rintro M2 h2 h3 bs rfl
      rw [<- hRQ]
      exact ⟨rfl,rfl,⟨M2,s.es⟩,c,.inr ⟨postW_true hk hO (by omega) (hsucc x g hx) hx hsame ⟨p1,p2,p3,p4⟩ h2 h3,rfl⟩⟩
     have fin3:∀ {m0:Nat->Int},(m0=if O.testBit 0=true then wrM (s.M 0) y c else s.M 0)->RQ .ret VFo1 (BFoT1 l t [D0] Y y S O d a (fun i=>if i=0 then m0 else s.M i) s.es c):=fun h0=>fin2 _ (fun i hi=>by
      match i,hi with
      | 0,_=>exact h0
      | _+1,hi=>exact absurd hi (by show ¬ _+1<1; omega)) (fun i hi=>by
      have hi:1<=i:=hi
      rw [if_neg (show ¬ i=0 by omega)]) _ rfl
     refine cond_d (fun b0=>cond_dk hyY (cond_dk hyY6 ?_)) (fun b0=>?_)
     ·have b0:O.testBit 0=true:=(bit_v O hO16 0 (by omega)).1 b0
      exact fin3 (if_pos b0).symm
     ·have b0:¬ O.testBit 0=true:=fun h=>b0 ((bit_v O hO16 0 (by omega)).2 h)
      exact fin3 (if_neg b0).symm
  ·rintro lock tt h K ⟨M,es,hf,⟨_,_,hpw⟩,k1,k2⟩
   refine ⟨⟨M,0,M,es⟩,?_,⟨all_pos hm0,hpw.2.2.2,Same.refl _ _ _ _,fun i hi=>absurd hi (Nat.not_lt_zero i)⟩,?_⟩
   ·dsimp only
    rw [chAt_zero hm0]; exact hf
   ·rintro e vs bs ⟨rfl,rfl,st,n',⟨hp,rfl⟩ | ⟨hp,rfl⟩⟩
    ·exact k1 st n' hp
    ·exact k2 st n' hp
 ·rintro lock tt h K ⟨M,es,hf,⟨h1,h2,h3⟩,_⟩
  exact (hh ⟨h1,h2,h3.1,h3.2.1,h3.2.2.1⟩).elim
end
section
variable {l:List Stk} {t:Tst} {D0:List Int} {Y k:Nat}
theorem lift1 {f:FuncId} {args:List VV} {b:Bool} {s:St} {M:Mde} {es:Lst} {nx:Nat} {bs:List (Nat × VB)} (ha:belL 12 args=true) (hr:renL id args=args) (hnx:12<=nx) (hat:atL nsB1 (BP1 l t [D0] Y M es) ⟨nx,bs⟩)
  (hc:CallsV Try.prog f args ⟨12,nsB1.zip (BP1 l t [D0] Y M es)⟩ (.ret (.bool b)) ⟨12,nsB1.zip (BP1 l t [D0] Y s.M s.es)⟩) :
  CallsV Try.prog f args ⟨nx,bs⟩ (.ret (.bool b)) ⟨nx,(7,.fam [] (Y*6) (s.M 0) 80)::(8,.map kS .bool s.es)::bs⟩:=by
 obtain ⟨e0,e1,e2,e3,e4,e5,e6,e7,e8,e9,e10,e11,_⟩:=hat
 have:=calls_ren (P:=Try.prog) (h:=⟨nx,bs⟩) (h1:=⟨nx,(7,.fam [] (Y*6) (s.M 0) 80)::(8,.map kS .bool s.es)::bs⟩) id (fun _ _ _ _ h=>h) hc (fun n hn=>by
  have hn:n<12:=hn
  match n,hn with
  | 0,_=>exact ⟨trivial,e0⟩
  | 1,_=>exact ⟨trivial,e1⟩
  | 2,_=>exact ⟨trivial,e2⟩
  | 3,_=>exact ⟨trivial,e3⟩
  | 4,_=>exact ⟨trivial,e4⟩
  | 5,_=>exact ⟨trivial,e5⟩
  | 6,_=>exact ⟨trivial,e6⟩
  | 7,_=>exact ⟨trivial,e7⟩
  | 8,_=>exact ⟨trivial,e8⟩
  | 9,_=>exact ⟨trivial,e9⟩
  | 10,_=>exact ⟨trivial,e10⟩
  | 11,_=>exact ⟨trivial,e11⟩
  | _+12,hn=>exact absurd hn (by omega)) (fun n hn=>by
  have hn:n<12:=hn
  match n,hn with
  | 0,_=>exact ⟨trivial,rfl,e0⟩
  | 1,_=>exact ⟨trivial,rfl,e1⟩
  | 2,_=>exact ⟨trivial,rfl,e2⟩
  | 3,_=>exact ⟨trivial,rfl,e3⟩
  | 4,_=>exact ⟨trivial,rfl,e4⟩
  | 5,_=>exact ⟨trivial,rfl,e5⟩
  | 6,_=>exact ⟨trivial,rfl,e6⟩
  | 7,_=>exact ⟨trivial,rfl,at_lt (show 7<nx by omega)⟩
  | 8,_=>exact ⟨trivial,rfl,at_lt (show 8<nx by omega)⟩
  | 9,_=>exact ⟨trivial,rfl,e9⟩
  | 10,_=>exact ⟨trivial,rfl,e10⟩
  | 11,_=>exact ⟨trivial,rfl,e11⟩
  | _+12,hn=>exact absurd hn (by omega)) (fun q hq=>by
  have hq:∀ n,n<12->n ≠ q:=fun n hn=>hq n hn
  rw [at_ne (hq 7 (by omega)),at_ne (hq 8 (by omega))]) (fun n hn=>by
  have hn:n<12:=hn
  match n,hn with
  | 0,_=>rfl
  | 1,_=>rfl
  | 2,_=>rfl
  | 3,_=>rfl
  | 4,_=>rfl
  | 5,_=>rfl
  | 6,_=>rfl
  | 7,_=>rfl
  | 8,_=>rfl
  | 9,_=>rfl
  | 10,_=>rfl
  | 11,_=>rfl
  | _+12,hn=>exact absurd hn (by omega)) ha rfl
 rw [hr] at this
 exact this
theorem follow_v1 (hfind:SpOk Try.prog (findR1 l t [D0] Y k).1 (findR1 l t [D0] Y k).2) (cf:Cfg l t [D0] Y) {y S d:Int} {O:Nat} {a:Nat->Int} {M:Mde} {es:Lst} (hy:y=(Y:Int) - (k+1:Nat)) (hp:PreW l t [D0] Y k O a es) :
  ∃ b s,PostW l t [D0] Y k O d a M b s/\CallsV Try.prog 40 [.agg (I y::I S::nL a),I O,I d,.ptr (.own 3 0),.ptr (.own 10 0),.ptr (.own 1 0),.ptr (.own 6 0)] ⟨12,nsB1.zip (BP1 l t [D0] Y M es)⟩ (.ret (.bool b)) ⟨12,nsB1.zip (BP1 l t [D0] Y s.M s.es)⟩:=by
 have hall:LoopsOk Try.prog 74 [(0,lFo1 l t [D0] Y k y S d O a)]:=fun x hx=>by
  simp only [List.mem_singleton] at hx
  subst hx
  exact ⟨by kernel_rfl,lFo1_ok hfind⟩
 obtain ⟨r,h',⟨b,s,hw,rfl,hf⟩,hc⟩:=of_callN (callL_good hmix noSp hall (un:=10) 20) (f:=40) (args:=[.agg (I y::I S::nL a),I O,I d,.ptr (.own 3 0),.ptr (.own 10 0),.ptr (.own 1 0),.ptr (.own 6 0)]) (h:=⟨12,nsB1.zip (BP1 l t [D0] Y M es)⟩) (K:=fun r h'=>∃ b s,PostW l t [D0] Y k O d a M b s/\r=.ret (.bool b)/\fitB (nsB1.zip (BP1 l t [D0] Y s.M s.es)) h') (by
  refine cast (fob1_ev l t D0 Y k M es y S d O a _).symm ⟨M,es,⟨⟨rfl,rfl,by repeat (first | exact trivial | refine ⟨VB.fit_refl _,?_⟩)⟩,rfl,rfl,rfl,rfl,trivial⟩,⟨hy,cf,hp⟩,fun s n' hw=>⟨false,s,hw,rfl,by repeat (first | exact trivial | refine ⟨VB.fit_refl _,?_⟩)⟩,fun s n' hw=>⟨true,s,hw,rfl,by repeat (first | exact trivial | refine ⟨VB.fit_refl _,?_⟩)⟩⟩)
 exact ⟨b,s,hw,calls_weak hc (Nat.le_refl _) hf rfl rfl⟩
theorem folR1_ok (hfind:SpOk Try.prog (findR1 l t [D0] Y k).1 (findR1 l t [D0] Y k).2) (cf:Cfg l t [D0] Y):SpOk Try.prog (folR1 l t [D0] Y k).1 (folR1 l t [D0] Y k).2:=by
 intro lock args h K hK
 simp only [folR1] at hK
 split at hK
 ·rename_i nx bs
  obtain ⟨S',O,a,M,es,⟨rfl,rfl,rfl,rfl⟩,⟨rfl,hnx⟩,hat,⟨hy,rfl,rfl,rfl⟩,hp,hK⟩:=hK
  obtain ⟨b,s,hw,hc⟩:=follow_v1 hfind cf hy hp
  exact ⟨_,_,hK b s hw,lock0 _ _,lift1 rfl rfl hnx hat hc⟩
 ·exact hK.elim
structure FS1 where
 M0:Mde
 r:Nat
 acc:Rsl
 s:St
def OF1 (l:List Stk) (t:Tst) (P:List (List Int)) (Y k:Nat) (y:Int) (S:Nat) (a:Nat->Int) (f:FS1) (e:VEx) (vs:List VV) (bs:List VB):Prop:=
 (e=.exit 0/\vs=VF1 y S a 0/\∃ st,PostF l t P Y (k+1) S a f.M0 true st/\bs=BF1 l t P Y y S a st.M st.es) ∨ (e=.ret/\∃ (r:Int) (st:St),PostF l t P Y (k+1) S a f.M0 false st/\vs=VF1 y S a r/\bs=BF1 l t P Y y S a st.M st.es)
theorem lFi1_ok (hfol:SpOk Try.prog (folR1 l t [D0] Y k).1 (folR1 l t [D0] Y k).2) {y:Int} {S:Nat} {a:Nat->Int}:LSound Try.prog true (.block 0 (.loop (loopB 0 (bodyOf Try.prog 44)))) (ntOf Try.prog 44) (lFi1 l t [D0] Y k y S a):=by
 by_cases hh:y=(Y:Int) - (k+1:Nat)/\Cfg l t [D0] Y/\k+1<=Y/\leftB l a
 ·obtain ⟨hy,cf,hk,ha⟩:=hh
  refine loop_rowD hmix (noL_good (tab1 hfol)) (un:=10) (ds:=dsF1) (ns:=nsF1) (nx:=13) (lsp:=fun f:FS1=>tabB [(2,lG1 l t [D0] Y k y S a f.r)]) (fun f:FS1=>VF1 y S a f.r) (fun f=>BF1 l t [D0] Y y S a f.s.M f.s.es) (fun f=>DoneF l t [D0] Y k S a f.M0 f.r f.acc f.s) (fun f=>f.r) (OF1 l t [D0] Y k y S a) (fun _ _=>lsp_one (by kernel_rfl) lG1_ok) ?_ ?_
  ·rintro ⟨M0,r,acc,s⟩ hd
   dsimp only at hd ⊢
   refine cast (gm1_ev l t D0 Y k s.M s.es y S r a _).symm ?_
   have hr16:r<16:=Nat.lt_of_lt_of_le hd.lt (Nat.pow_le_pow_right (n:=2) (by omega) (show 1<=4 by omega))
   by_cases hr:r=0
   ·subst hr
    refine cond_d (fun h=>by omega) (fun _=>.inl ⟨rfl,rfl,s,done_end hd,rfl⟩)
   ·refine cond_dk (by omega) ⟨s.M,s.es,⟨⟨rfl,rfl,by repeat (first | exact trivial | refine ⟨VB.fit_refl _,?_⟩)⟩,rfl,rfl,rfl,rfl,rfl,rfl,rfl,rfl,rfl,rfl,rfl,rfl,rfl,trivial⟩,⟨by omega,hk,cf,hr16⟩,?_⟩
    intro o d hg
    have ho:o<2 ^ [D0].length:=by
     have:=grpF_le cf.nd (Y - (k+1)) r [D0].length
     rw [hg] at this; exact this
    have ho16:o<16:=Nat.lt_of_lt_of_le ho (Nat.pow_le_pow_right (n:=2) (by omega) (show 1<=4 by omega))
    refine ⟨S,o,a,s.M,s.es,⟨rfl,rfl,rfl,rfl⟩,⟨rfl,by omega⟩,⟨rfl,rfl,rfl,rfl,rfl,rfl,rfl,rfl,rfl,rfl,rfl,rfl,trivial⟩,⟨hy,rfl,rfl,rfl⟩,⟨hk,ho,ha,hd.lost⟩,?_⟩
    intro b s' hw
    obtain ⟨d1,d2⟩:=done_step cf.nd hd hr hg (s':=s')
    refine cond_i (fun g=>?_) (fun g=>?_)
    ·have g:b=false:=by simpa using g
     subst g
     obtain ⟨z1,z2,z3⟩:=d2 hw
     refine ⟨key82,.inr ⟨rfl,r,⟨s'.M,setE s'.es (kyF y S a) 1⟩,⟨by rw [z1]; rfl,?_,z3,fun x hx=>by rw [z1] at hx; cases hx⟩,rfl,rfl⟩⟩
     have:=lost_set z2 hk z1
     rw [<- hy] at this
     exact this
    ·have g:b=true:=by simpa using g
     subst g
     obtain ⟨acc',hd',hlt⟩:=d1 hw
     rw [andnot_v r hr16 o ho16]
     exact ⟨⟨M0,_,acc',s'⟩,hd',hlt,rfl,fitBs_refl _,fun _ _ _ h=>h⟩
  ·rintro lock tt h K ⟨M,es,hf,⟨_,_,hp⟩,k1,k2⟩
   refine ⟨⟨M,S,fun _ _ _=>0,⟨M,es⟩⟩,hf,done_start hp,?_⟩
   rintro e vs bs (⟨rfl,rfl,st,hp,rfl⟩ | ⟨rfl,r,st,hp,rfl,rfl⟩)
   ·exact k1 st hp
   ·exact k2 st r hp
 ·rintro lock tt h K ⟨M,es,hf,⟨h1,h2,h3⟩,_⟩
  exact (hh ⟨h1,h2,h3.1,h3.2.2.1⟩).elim
theorem find_z1 (cf:Cfg l t [D0] Y) {y:Int} {S:Nat} {a:Nat->Int} {M:Mde} {es:Lst} (hy:y=(Y:Int)) (hp:PreF l t [D0] Y 0 S a es) :
  ∃ b s,PostF l t [D0] Y 0 S a M b s/\CallsV Try.prog 44 [.agg (I y::I S::nL a),.ptr (.own 4 0),.ptr (.own 9 0),.ptr (.own 1 0),.ptr (.own 11 0)] ⟨12,nsB1.zip (BP1 l t [D0] Y M es)⟩ (.ret (.bool b)) ⟨12,nsB1.zip (BP1 l t [D0] Y s.M s.es)⟩:=by
 have hall:LoopsOk Try.prog 44 [(0,lZ)]:=fun x hx=>by
  simp only [List.mem_singleton] at hx
  subst hx
  exact ⟨by kernel_rfl,lZ_ok⟩
 obtain ⟨r,h',⟨rfl,hf⟩,hc⟩:=of_callN (callL_good hmix noSp hall (un:=10) 20) (f:=44) (args:=[.agg (I y::I S::nL a),.ptr (.own 4 0),.ptr (.own 9 0),.ptr (.own 1 0),.ptr (.own 11 0)]) (h:=⟨12,nsB1.zip (BP1 l t [D0] Y M es)⟩) (K:=fun r h'=>r=.ret (.bool true)/\fitB (nsB1.zip (BP1 l t [D0] Y M es)) h') (by
  refine cast (fiz1_ev l t D0 Y M es y S a _).symm (cond_dk hy ⟨rfl,by repeat (first | exact trivial | refine ⟨VB.fit_refl _,?_⟩)⟩))
 exact ⟨true,⟨M,es⟩,⟨rfl,hp.2.2.2,Same.refl _ _ _ _,fun x _ i y j _ _ h1 h2=>by omega⟩,calls_weak hc (Nat.le_refl _) hf rfl rfl⟩
theorem find_s1 (hfol:SpOk Try.prog (folR1 l t [D0] Y k).1 (folR1 l t [D0] Y k).2) (cf:Cfg l t [D0] Y) {y:Int} {S:Nat} {a:Nat->Int} {M:Mde} {es:Lst} (hy:y=(Y:Int) - (k+1:Nat)) (hp:PreF l t [D0] Y (k+1) S a es) :
  ∃ b s,PostF l t [D0] Y (k+1) S a M b s/\CallsV Try.prog 44 [.agg (I y::I S::nL a),.ptr (.own 4 0),.ptr (.own 9 0),.ptr (.own 1 0),.ptr (.own 11 0)] ⟨12,nsB1.zip (BP1 l t [D0] Y M es)⟩ (.ret (.bool b)) ⟨12,nsB1.zip (BP1 l t [D0] Y s.M s.es)⟩:=by
 have hall:LoopsOk Try.prog 44 [(0,lFi1 l t [D0] Y k y S a)]:=fun x hx=>by
  simp only [List.mem_singleton] at hx
  subst hx
  exact ⟨by kernel_rfl,lFi1_ok hfol⟩
 obtain ⟨r,h',⟨b,s,hw,rfl,hf⟩,hc⟩:=of_callN (callL_good hmix noSp hall (un:=10) 20) (f:=44) (args:=[.agg (I y::I S::nL a),.ptr (.own 4 0),.ptr (.own 9 0),.ptr (.own 1 0),.ptr (.own 11 0)]) (h:=⟨12,nsB1.zip (BP1 l t [D0] Y M es)⟩) (K:=fun r h'=>∃ b s,PostF l t [D0] Y (k+1) S a M b s/\r=.ret (.bool b)/\fitB (nsB1.zip (BP1 l t [D0] Y s.M s.es)) h') (by
  refine cast (fib1_ev l t D0 Y k M es y S a _).symm ?_
  have hk:=hp.1
  refine cond_d (fun h=>by omega) (fun _=>⟨key82,cond_d (fun h=>⟨false,⟨M,es⟩,?_,rfl,by repeat (first | exact trivial | refine ⟨VB.fit_refl _,?_⟩)⟩) (fun _=>⟨M,es,⟨⟨rfl,rfl,by repeat (first | exact trivial | refine ⟨VB.fit_refl _,?_⟩)⟩,rfl,rfl,rfl,rfl,rfl,rfl,rfl,rfl,trivial⟩,⟨hy,cf,hp⟩,fun s hw=>⟨true,s,hw,rfl,by repeat (first | exact trivial | refine ⟨VB.fit_refl _,?_⟩)⟩,fun s r hw=>⟨false,s,hw,rfl,by repeat (first | exact trivial | refine ⟨VB.fit_refl _,?_⟩)⟩⟩)⟩)
  have h:valOf es (kyF y S a)=1:=h
  have hn:=lost_get cf.hl.1 hp.2.2.2 (S:=S) (a:=a) hk (by rw [<- hy,h]; omega)
  exact ⟨by rw [hn]; rfl,hp.2.2.2,Same.refl _ _ _ _,fun x hx=>by rw [hn] at hx; cases hx⟩)
 exact ⟨b,s,hw,calls_weak hc (Nat.le_refl _) hf rfl rfl⟩
theorem findR1_ok (cf:Cfg l t [D0] Y):∀ k:Nat,SpOk Try.prog (findR1 l t [D0] Y k).1 (findR1 l t [D0] Y k).2:=by
 have key:∀ k:Nat,(∀ (y:Int) (S:Nat) (a:Nat->Int) (M:Mde) (es:Lst),y=(Y:Int) - k->PreF l t [D0] Y k S a es->∃ b s,PostF l t [D0] Y k S a M b s/\CallsV Try.prog 44 [.agg (I y::I S::nL a),.ptr (.own 4 0),.ptr (.own 9 0),.ptr (.own 1 0),.ptr (.own 11 0)] ⟨12,nsB1.zip (BP1 l t [D0] Y M es)⟩ (.ret (.bool b)) ⟨12,nsB1.zip (BP1 l t [D0] Y s.M s.es)⟩)->SpOk Try.prog (findR1 l t [D0] Y k).1 (findR1 l t [D0] Y k).2:=by
  intro k hv lock args h K hK
  simp only [findR1] at hK
  split at hK
  ·rename_i nx bs
   obtain ⟨S',a,M,es,⟨rfl,rfl,rfl,rfl⟩,⟨rfl,hnx⟩,hat,⟨hy,rfl,rfl⟩,hp,hK⟩:=hK
   obtain ⟨b,s,hw,hc⟩:=hv _ S' a M es hy hp
   exact ⟨_,_,hK b s hw,lock0 _ _,lift1 rfl rfl hnx hat hc⟩
  ·exact hK.elim
 intro k
 induction k with
 | zero=>exact key 0 (fun y S a M es hy hp=>find_z1 cf (by omega) hp)
 | succ k ih=>exact key (k+1) (fun y S a M es hy hp=>find_s1 (folR1_ok ih cf) cf hy hp)
end
def nsPl1:List Nat:=[5,7]
def BPl1 (Y:Nat) (M:Mde):List VB:=[.cells [sFa 7 Y] 76,.fam [] (Y*6) (M 0) 80]
def lCp1 (l:List Stk) (t:Tst) (P:List (List Int)) (Y:Nat):LT:=fun lock tt h K=>match h.nx with
 | 12=>∃ (M:Mde),FitP lock h tt ⟨12,nsPl1.zip (BPl1 Y M)⟩ ((18,.nils)::dsPl.zip (VPl l t P Y 1 0 .nils 0))/\K .normal ((18,.tl Y 1 (rowG l.length M 0))::(18::dsPl).zip (.sl 12 Y::VPl l t P Y 1 0 .nils Y)) ⟨13,(12,.gone)::(12::nsPl1).zip (.vec Y (rowG l.length M 0) 1 23::(BPl1 Y M))⟩
 | _=>False
theorem cp10_ev (l:List Stk) (t:Tst) (P:List (List Int)) (Y y:Nat) (M:Mde) (g:Nat->List VV) (X:VEx->List VV->List VB->Prop):codeE Try.prog (callN Try.prog (tabS [listT]) noL 10 20) (fun _=>none) true 10 (ntOf Try.prog 17) 0 (loopB 5 (bodyOf Try.prog 17)) ((18::dsPl).zip (.sl 12 y::VPl l t P Y 1 0 .nils y)) ⟨13,(12::nsPl1).zip (.vec y g 1 23::(BPl1 Y M))⟩ (obs 13 (18::dsPl) (12::nsPl1) X) =
 (let z1:=[M 0 (0+(↑y:Int).toNat*(6)+0),M 0 (0+(↑y:Int).toNat*(6)+1),M 0 (0+(↑y:Int).toNat*(6)+2),M 0 (0+(↑y:Int).toNat*(6)+3),M 0 (0+(↑y:Int).toNat*(6)+4),M 0 (0+(↑y:Int).toNat*(6)+5)];
 (bif decide ((↑y:Int)<(↑Y:Int)) then
 bif decide ((0:Int)<=(↑y:Int)/\(↑y:Int)<(↑Y:Int)) then
 bif decide (0+(↑y:Int).toNat*(6)+(6)<=Y*6) then
 ∃ (n:Nat->Int),∃ (m:Nat),[I (setF (fun (_:Nat)=>(0:Int)) 0 z1 (0+0)),I (setF (fun (_:Nat)=>(0:Int)) 0 z1 (0+1)),I (setF (fun (_:Nat)=>(0:Int)) 0 z1 (0+2)),I (setF (fun (_:Nat)=>(0:Int)) 0 z1 (0+3)),I (setF (fun (_:Nat)=>(0:Int)) 0 z1 (0+4)),I (setF (fun (_:Nat)=>(0:Int)) 0 z1 (0+5))]=nL n/\(↑l.length:Int)=(↑m:Int)/\m<=6/\bif y.beq y then
 bif roomB (y+1) (24) then
 bif inK .i64 ((↑y:Int)+(1:Int)) then
 X .normal [VV.sl 12 (y+1),I ((↑y:Int)+(1:Int)),I (↑Y:Int),VV.slice (.fa (7+0) 0 0) Y Y,I (↑0:Int),I (↑1:Int),VV.slice (.own 5 0) 1 1,VV.nils,I 0,VV.nils,VV.ptr (.own 1 0),VV.ptr (.own 0 0),VV.tl l.length 5 (stG l),VV.agg [VV.tl t.T.length 1 (dG t.T),I t.far,I t.least],VV.tl P.length 1 (pthG P)] [VB.vec (y+1) (catG y g (oneL 1 [VV.tl m 1 (chG n)])) (1) 23,VB.cells [sFa 7 Y] 76,VB.fam [] (Y*6) (M 0) 80]
 else False
 else False
 else False
 else False
 else False
 else X (.exit 5) [VV.sl 12 y,I (↑y:Int),I (↑Y:Int),VV.slice (.fa (7+0) 0 0) Y Y,I (↑0:Int),I (↑1:Int),VV.slice (.own 5 0) 1 1,VV.nils,I 0,VV.nils,VV.ptr (.own 1 0),VV.ptr (.own 0 0),VV.tl l.length 5 (stG l),VV.agg [VV.tl t.T.length 1 (dG t.T),I t.far,I t.least],VV.tl P.length 1 (pthG P)] [VB.vec y g 1 23,VB.cells [sFa 7 Y] 76,VB.fam [] (Y*6) (M 0) 80])):=by kernel_rfl
def hpn1_1 (D0:List Int) (t:Tst):VH:=VH.mk (2) [(1,VB.cells [VV.tl [D0].length 1 (pthG [D0])] 26),(0,VB.cells [VV.tl t.T.length 1 (dG t.T),I t.far,I t.least] 25)]
def hpn1_2 (D0:List Int) (l:List Stk) (t:Tst):VH:=VH.mk (12) ((10,VB.cells [VV.func 44 [] [VV.ptr (.own (4) 0),VV.ptr (.own (9) 0),VV.ptr (.own (1) 0),VV.ptr (.own (11) 0)]] 78)::(11,VB.cells [VV.func 40 [] [VV.ptr (.own (3) 0),VV.ptr (.own (10) 0),VV.ptr (.own (1) 0),VV.ptr (.own (6) 0)]] 88)::(11,VB.cells [VV.nilf] 88)::(10,VB.cells [VV.nilf] 78)::(9,VB.cells [VV.mp (8)] 77)::(9,VB.cells [VV.opq (Value.map none)] 77)::(8,VB.map ([PK.int IntKind.i64] ++ ([PK.int IntKind.i64] ++ ((List.replicate 6 [PK.int IntKind.i64]).flatten ++ []))) PK.bool [])::(5,VB.cells [VV.slice (.fa (7) 0 0) (↑([D0].getD (Int.toNat (0:Int)) []).length:Int).toNat (↑([D0].getD (Int.toNat (0:Int)) []).length:Int).toNat] 76)::([(7,VB.fam [] ((↑([D0].getD (Int.toNat (0:Int)) []).length:Int).toNat*(6)) (fun (_:Nat)=>(0:Int)) 80)] ++ [(6,VB.cells [VV.slice (.own (5) 0) (1) (1)] 75),(6,VB.cells [VV.nils] 75),(5,VB.cells [VV.nils] 76),(4,VB.cells [I (↑([D0].getD (Int.toNat (0:Int)) []).length:Int)] 3),(4,VB.cells [I 0] 3),(3,VB.cells [VV.ptr (.own (2) 0)] 72),(3,VB.cells [VV.nilp] 72),(2,VB.cells (stD l::tsL t) 74),(1,VB.cells [VV.tl [D0].length 1 (pthG [D0])] 26),(0,VB.cells [VV.tl t.T.length 1 (dG t.T),I t.far,I t.least] 25)]))
def hpn1_3 (D0:List Int) (l:List Stk) (s:St) (t:Tst):VH:=VH.mk (12) [(7,VB.fam [] (D0.length*6) (s.M 0) 80),(8,VB.map kS PK.bool s.es),(10,VB.cells [VV.func 44 [] [VV.ptr (.own (4) 0),VV.ptr (.own (9) 0),VV.ptr (.own (1) 0),VV.ptr (.own (11) 0)]] 78),(11,VB.cells [VV.func 40 [] [VV.ptr (.own (3) 0),VV.ptr (.own (10) 0),VV.ptr (.own (1) 0),VV.ptr (.own (6) 0)]] 88),(11,VB.cells [VV.nilf] 88),(10,VB.cells [VV.nilf] 78),(9,VB.cells [VV.mp (8)] 77),(9,VB.cells [VV.opq (Value.map none)] 77),(8,VB.map kS PK.bool []),(5,VB.cells [VV.slice (.fa (7) 0 0) (↑([D0].getD (Int.toNat (0:Int)) []).length:Int).toNat (↑([D0].getD (Int.toNat (0:Int)) []).length:Int).toNat] 76),(7,VB.fam [] ((↑([D0].getD (Int.toNat (0:Int)) []).length:Int).toNat*(6)) (fun (_:Nat)=>(0:Int)) 80),(6,VB.cells [VV.slice (.own (5) 0) (1) (1)] 75),(6,VB.cells [VV.nils] 75),(5,VB.cells [VV.nils] 76),(4,VB.cells [I (↑([D0].getD (Int.toNat (0:Int)) []).length:Int)] 3),(4,VB.cells [I 0] 3),(3,VB.cells [VV.ptr (.own (2) 0)] 72),(3,VB.cells [VV.nilp] 72),(2,VB.cells (stD l::tsL t) 74),(1,VB.cells [VV.tl [D0].length 1 (pthG [D0])] 26),(0,VB.cells [VV.tl t.T.length 1 (dG t.T),I t.far,I t.least] 25)]
def hpn1_4 (D0:List Int) (l:List Stk) (s:St) (t:Tst):VH:=VH.mk (12) ((7,VB.fam [] (D0.length*6) (s.M 0) 80)::(8,VB.map kS PK.bool s.es)::(10,VB.cells [VV.func 44 [] [VV.ptr (.own (4) 0),VV.ptr (.own (9) 0),VV.ptr (.own (1) 0),VV.ptr (.own (11) 0)]] 78)::(11,VB.cells [VV.func 40 [] [VV.ptr (.own (3) 0),VV.ptr (.own (10) 0),VV.ptr (.own (1) 0),VV.ptr (.own (6) 0)]] 88)::(11,VB.cells [VV.nilf] 88)::(10,VB.cells [VV.nilf] 78)::(9,VB.cells [VV.mp (8)] 77)::(9,VB.cells [VV.opq (Value.map none)] 77)::(8,VB.map ([PK.int IntKind.i64] ++ ([PK.int IntKind.i64] ++ ((List.replicate 6 [PK.int IntKind.i64]).flatten ++ []))) PK.bool [])::(5,VB.cells [VV.slice (.fa (7) 0 0) (↑([D0].getD (Int.toNat (0:Int)) []).length:Int).toNat (↑([D0].getD (Int.toNat (0:Int)) []).length:Int).toNat] 76)::([(7,VB.fam [] ((↑([D0].getD (Int.toNat (0:Int)) []).length:Int).toNat*(6)) (fun (_:Nat)=>(0:Int)) 80)] ++ [(6,VB.cells [VV.slice (.own (5) 0) (1) (1)] 75),(6,VB.cells [VV.nils] 75),(5,VB.cells [VV.nils] 76),(4,VB.cells [I (↑([D0].getD (Int.toNat (0:Int)) []).length:Int)] 3),(4,VB.cells [I 0] 3),(3,VB.cells [VV.ptr (.own (2) 0)] 72),(3,VB.cells [VV.nilp] 72),(2,VB.cells (stD l::tsL t) 74),(1,VB.cells [VV.tl [D0].length 1 (pthG [D0])] 26),(0,VB.cells [VV.tl t.T.length 1 (dG t.T),I t.far,I t.least] 25)]))
def hpn1_5 (D0:List Int) (M:Mde) (l:List Stk):VH:=VH.mk (15) [(14,VB.vec 1 ((oneL 1 [VV.tl D0.length 1 (rowG l.length M 0)])) (1) 26),(13,VB.vec 1 ((oneL 1 [VV.tl D0.length 1 (rowG l.length M 0)])) (1) 26),(12,VB.gone),(12,VB.vec D0.length (rowG l.length M 0) 1 23),(5,VB.cells [VV.slice (.fa 7 0 0) D0.length D0.length] 76),(7,VB.fam [] (D0.length*6) (M 0) 80)]
theorem pq1_ev (l:List Stk) (t:Tst) (D0:List Int) (Q:VRes->VH->Prop):callN Try.prog (tabS [asR l t,casksR l t,apR [D0],findR1 l t [D0] D0.length D0.length,listT]) (atF 17 [(5,lCp1 l t [D0] D0.length)]) 10 20 0 (.fn 17) [stD l,.agg (tsL t),pthD [D0]] ⟨0,[]⟩ (fun r h=>Q r h) =
 (let z1:=(↑([D0].getD (Int.toNat (0:Int)) []).length:Int);
 (isD (hpn1_1 D0 t) 2 (VV.tl l.length 5 (stG l)) (stD l)/\isD (hpn1_1 D0 t) 2 (VV.agg [VV.tl t.T.length 1 (dG t.T),I t.far,I t.least]) (VV.agg (tsL t))/\bif !okAll l t then
 Q (.ret (.tup [VV.nils,I 1])) (hpn1_1 D0 t)
 else isD (hpn1_1 D0 t) 4 (VV.tl [D0].length 1 (pthG [D0])) (pthD [D0])/\pthB [D0]/\bif !okPaths [D0] then
 Q (.ret (.tup [VV.nils,I 2])) (hpn1_1 D0 t)
 else bif decide ((0:Int)<=z1/\z1=z1) then
 bif roomB z1.toNat (48) then
 isD (maskH [0,1,2,3,4,5,6,7,8,9,10,11] (hpn1_2 D0 l t)) 4 (VV.ptr (.own (2) 0)) (VV.tp (stD l::tsL t))/\l.length<=6/\∃ (S':Nat),∃ (a:Nat->Int),∃ (M:Mde),∃ (es:Lst),(VV.ptr (.own 4 0)=VV.ptr (.own 4 0)/\VV.ptr (.own 9 0)=VV.ptr (.own 9 0)/\VV.ptr (.own 1 0)=VV.ptr (.own 1 0)/\VV.ptr (.own 11 0)=VV.ptr (.own 11 0))/\(0=0/\12<=12)/\atL nsB1 (BP1 l t [D0] D0.length M es) (hpn1_2 D0 l t)/\((0:Int)=(↑D0.length:Int) - (↑D0.length:Int)/\(1:Int)*(2:Int) ^ min (↑[D0].length:Int).toNat IntKind.i64.bits - (1:Int)=(↑S':Int)/\[I (mostF l 0),I (mostF l 1),I (mostF l 2),I (mostF l 3),I (mostF l 4),I (mostF l 5)]=nL a)/\PreF l t [D0] D0.length D0.length S' a es/\∀ (b:Bool) (s:St),PostF l t [D0] D0.length D0.length S' a M b s->bif !b then
 Q (.ret (.tup [VV.nils,I 4])) (hpn1_3 D0 l s t)
 else ∃ (M:Mde),FitP 0 (hpn1_4 D0 l s t) [(73,I 0),(72,I (↑z1.toNat:Int)),(71,VV.slice (.fa (7) 0 0) z1.toNat z1.toNat),(18,VV.nils),(17,VV.slice (.fa (7) 0 0) z1.toNat z1.toNat),(70,VV.slice (.fa (7) 0 0) z1.toNat z1.toNat),(69,VV.ptr (.own (5) 0)),(68,VV.bool true),(68,VV.bool (decide ((0:Int)<(↑(1):Int)))),(67,I 0),(66,I (↑(1):Int)),(65,VV.slice (.own (5) 0) (1) (1)),(15,VV.nils),(64,VV.bool false),(64,VV.bool !b),(63,VV.bool b),(62,VV.agg [I 0,I ((1:Int)*(2:Int) ^ min (↑[D0].length:Int).toNat IntKind.i64.bits - (1:Int)),I (mostF l 0),I (mostF l 1),I (mostF l 2),I (mostF l 3),I (mostF l 4),I (mostF l 5)]),(61,VV.agg (nL (mostF l))),(60,VV.ptr (.own (2) 0)),(59,I ((1:Int)*(2:Int) ^ min (↑[D0].length:Int).toNat IntKind.i64.bits - (1:Int))),(58,I ((1:Int)*(2:Int) ^ min (↑[D0].length:Int).toNat IntKind.i64.bits)),(57,I (↑[D0].length:Int)),(56,VV.tl [D0].length 1 (pthG [D0])),(55,VV.func 44 [] [VV.ptr (.own (4) 0),VV.ptr (.own (9) 0),VV.ptr (.own (1) 0),VV.ptr (.own (11) 0)]),(54,VV.func 44 [] [VV.ptr (.own (4) 0),VV.ptr (.own (9) 0),VV.ptr (.own (1) 0),VV.ptr (.own (11) 0)]),(14,VV.ptr (.own (11) 0)),(53,VV.func 40 [] [VV.ptr (.own (3) 0),VV.ptr (.own (10) 0),VV.ptr (.own (1) 0),VV.ptr (.own (6) 0)]),(13,VV.ptr (.own (10) 0)),(12,VV.ptr (.own (9) 0)),(52,VV.mp (8)),(44,VV.bool false),(44,VV.bool (decide ((0:Int)+(1:Int)<(↑(1):Int)))),(43,I ((0:Int)+(1:Int))),(51,I ((0:Int)+(1:Int))),(50,VV.ptr (.own (5) 0)),(49,VV.slice (.fa (7) 0 0) z1.toNat z1.toNat),(48,I z1),(47,I 0),(46,VV.slice (.own (5) 0) (1) (1)),(11,I 0),(45,I 0),(44,VV.bool true),(44,VV.bool (decide ((0:Int)<(↑(1):Int)))),(43,I 0),(42,I (↑(1):Int)),(41,VV.slice (.own (5) 0) (1) (1)),(10,VV.ptr (.own (6) 0)),(40,VV.slice (.own (5) 0) (1) (1)),(39,I (↑[D0].length:Int)),(38,VV.tl [D0].length 1 (pthG [D0])),(9,VV.ptr (.own (4) 0)),(37,I z1),(36,VV.tl ([D0].getD (Int.toNat (0:Int)) []).length 1 (dG ([D0].getD (Int.toNat (0:Int)) []))),(35,VV.tp [VV.tl ([D0].getD (Int.toNat (0:Int)) []).length 1 (dG ([D0].getD (Int.toNat (0:Int)) []))]),(34,VV.tl [D0].length 1 (pthG [D0])),(8,VV.ptr (.own (3) 0)),(33,VV.ptr (.own (2) 0)),(32,VV.agg (stD l::tsL t)),(31,VV.agg [VV.tl t.T.length 1 (dG t.T),I t.far,I t.least]),(30,VV.tl l.length 5 (stG l)),(26,VV.bool false),(26,VV.bool !okPaths [D0]),(29,VV.bool !okPaths [D0]),(28,VV.bool (okPaths [D0])),(27,VV.tl [D0].length 1 (pthG [D0])),(21,VV.bool false),(21,VV.bool !okAll l t),(25,VV.bool !okAll l t),(24,VV.bool (okAll l t)),(23,VV.agg [VV.tl t.T.length 1 (dG t.T),I t.far,I t.least]),(22,VV.tl l.length 5 (stG l)),(7,I 0),(6,VV.nils),(5,VV.ptr (.own (1) 0)),(4,VV.ptr (.own 0 0)),(0,stD l),(1,VV.agg (tsL t)),(2,pthD [D0])] (VH.mk 12 (nsPl1.zip (BPl1 D0.length M))) ((18,VV.nils)::dsPl.zip (VPl l t [D0] D0.length 1 0 VV.nils 0))/\Q (.ret (.tup [VV.sl (14) 1,I 0])) (hpn1_5 D0 M l)
 else False
 else False)):=by kernel_rfl
section
variable {l:List Stk} {t:Tst} {P:List (List Int)} {Y:Nat}
theorem cpr10 {M:Mde} (hY:Y<=4) (hl6:l.length<=6):LSound Try.prog true (.block 5 (.loop (loopB 5 (bodyOf Try.prog 17)))) (ntOf Try.prog 17) (fun lock tt h K=>FitP lock h tt ⟨12,nsPl1.zip (BPl1 Y M)⟩ ((18,.nils)::dsPl.zip (VPl l t P Y 1 0 .nils 0))/\K .normal ((18,.tl Y 1 (rowG l.length M 0))::(18::dsPl).zip (.sl 12 Y::VPl l t P Y 1 0 .nils Y)) ⟨13,(12,.gone)::(12::nsPl1).zip (.vec Y (rowG l.length M 0) 1 23::(BPl1 Y M))⟩):=by
 refine copy_row (n:=12) (ns:=nsPl1) (BL:=(BPl1 Y M)) rfl ?_ rfl
 refine loop_row hmix (noL_good (tab1 listT_ok)) (un:=10) (ds:=18::dsPl) (ns:=12::nsPl1) (nx:=13) (fun y:Nat=>.sl 12 y::VPl l t P Y 1 0 .nils y) (fun y=>.vec y (rowG l.length M 0) 1 23::(BPl1 Y M)) (fun y=>y<=Y) (fun y=>Y - y) (fun _ ex vs bs=>ex=.exit 5/\bs=.vec Y (rowG l.length M 0) 1 23::(BPl1 Y M)/\vs=.sl 12 Y::VPl l t P Y 1 0 .nils Y) noL_ok ?_ ?_
 ·rintro y h0
  refine cast (cp10_ev l t P Y y M _ _).symm ?_
  refine cond_d (fun hy=>cond_dk ⟨by omega,by omega⟩ (cond_dk (by omega) ⟨fun j=>M 0 (y*6+j),l.length,g6_row,rfl,hl6,cond_k (Nat.beq_refl _) (cond_k (roomC y (by omega)) (cond_r (by omega) ⟨y+1,by show y+1<=Y; omega,by dsimp only; omega,rfl,⟨⟨rfl,rfl,rfl,fun j hj=>cat_row hj⟩,fitBs_refl _⟩,fun _ _ _ h=>h⟩))⟩)) (fun hy=>?_)
  obtain rfl:y=Y:=by omega
  exact ⟨rfl,rfl,rfl⟩
 ·rintro lock tt h K ⟨hf,k1⟩
  refine ⟨0,hf,Nat.zero_le _,?_⟩
  rintro ex vs bs ⟨rfl,rfl,rfl⟩
  exact k1
theorem lCp1_ok (hY:Y<=4) (hl6:l.length<=6):LSound Try.prog true (.block 5 (.loop (loopB 5 (bodyOf Try.prog 17)))) (ntOf Try.prog 17) (lCp1 l t P Y):=by
 intro lock tt h K hK
 unfold lCp1 at hK
 split at hK
 ·obtain ⟨M,hf,k1⟩:=hK
  exact cpr10 hY hl6 lock tt h K ⟨hf,k1⟩
 ·exact hK.elim
end
theorem plp1 {l:List Stk} {t:Tst} {D0:List Int} (h1:okAll l t=true) (h2:okPaths [D0]=true) (cf:Cfg l t [D0] D0.length) (hpb:pthB [D0]):∃ r h',CallsV Try.prog 17 [stD l,.agg (tsL t),pthD [D0]] ⟨0,[]⟩ r h'/\PlnK l t [D0] D0.length r h':=by
 have hl6:=cf.hl.1
 have hY:=cf.Y4
 have hrm:roomB ((([D0].getD (Int.toNat 0) []).length:Int)).toNat 48=true:=roomY _ hY
 have htab:∀ f T,tabS [asR l t,casksR l t,apR [D0],findR1 l t [D0] D0.length D0.length,listT] f=some T->SpOk Try.prog f T:=tab_ok _ (fun x hx=>by
  simp only [List.mem_cons,List.not_mem_nil,or_false] at hx
  rcases hx with rfl | rfl | rfl | rfl | rfl
  ·exact asR_ok l t
  ·exact casksR_ok l t
  ·exact apR_ok _
  ·exact findR1_ok cf D0.length
  ·exact listT_ok)
 have hall:LoopsOk Try.prog 17 [(5,lCp1 l t [D0] D0.length)]:=fun x hx=>by
  simp only [List.mem_singleton] at hx
  subst hx
  exact ⟨by kernel_rfl,lCp1_ok hY hl6⟩
 obtain ⟨r,h',hk,hc⟩:=of_callN (callL_good hmix htab hall (un:=10) 20) (f:=17) (args:=[stD l,.agg (tsL t),pthD [D0]]) (h:=⟨0,[]⟩) (K:=PlnK l t [D0] D0.length) (by
  refine cast (pq1_ev l t D0 _).symm ⟨isD_l,⟨⟨rfl,rfl,fun _ _=>rfl⟩,⟨rfl,rfl⟩,⟨rfl,rfl⟩,trivial⟩,cond_i (fun h=>by rw [h1] at h; cases h) (fun _=>⟨⟨rfl,rfl,fun _ _=>rfl⟩,hpb,cond_i (fun h=>by rw [h2] at h; cases h) (fun _=>?_)⟩)⟩
  refine cond_dk ⟨by omega,rfl⟩ (cond_k hrm (⟨hc61 rfl,hl6,1,mostF l,fun _ _=>0,[],⟨rfl,rfl,rfl,rfl⟩,⟨rfl,Nat.le_refl _⟩,⟨rfl,rfl,rfl,rfl,rfl,rfl,rfl,rfl,rfl,rfl,rfl,rfl,trivial⟩,⟨by omega,rfl,rfl⟩,⟨Nat.le_refl _,(by show 1<2 ^ 1; decide),most_left cf.hl,lost_nil⟩,?_⟩))
  rintro b s ⟨p1,p2,p3,p4⟩
  refine cond_i (fun g=>?_) (fun g=>?_)
  ·have g:b=false:=by simpa using g
   subst g
   refine .inl ⟨?_,rfl⟩
   cases hx:planF l t [D0] D0.length D0.length 1 (mostF l) with
   | none=>exact hx
   | some x=>rw [hx] at p1; cases p1
  ·have g:b=true:=by simpa using g
   subst g
   obtain ⟨x,hx⟩:∃ x,planF l t [D0] D0.length D0.length 1 (mostF l)=some x:=by
    cases hx:planF l t [D0] D0.length D0.length 1 (mostF l) with
    | none=>rw [hx] at p1; cases p1
    | some x=>exact ⟨x,rfl⟩
   refine ⟨s.M,⟨⟨rfl,rfl,rfl,⟨rfl,rfl,rfl,fun _ _=>rfl⟩,trivial⟩,rfl,rfl,rfl,rfl,rfl,rfl,rfl,rfl,rfl,rfl,rfl,rfl,rfl,rfl,rfl,trivial⟩,.inr ⟨x,14,_,_,hx,rfl,rfl,fun i hi=>?_⟩⟩
   have hi:i<1:=hi
   match i,hi with
   | 0,_=>exact tl_weak rfl (fun y hy=>wk_ch (fun j hj=>p4 x hx 0 y j (by omega) rfl (by omega) hy))
   | _+1,hi=>exact absurd hi (by omega))
 exact ⟨r,h',hc,hk⟩
theorem asK_ok (l:List Stk) (t:Tst) (b:Bool):SpOk Try.prog (asK l t b).1 (asK l t b).2:=by
 intro lock args h K hK
 simp only [asK] at hK
 split at hK
 ·obtain ⟨h1,h2,rfl,hK⟩:=hK
  exact asT_ok lock _ h K ⟨l,t,h1,h2,hK⟩
 ·exact hK.elim
theorem apK_ok (p:List (List Int)) (b:Bool):SpOk Try.prog (apK p b).1 (apK p b).2:=by
 intro lock args h K hK
 simp only [apK] at hK
 split at hK
 ·obtain ⟨h1,⟨h2,rfl⟩,hK⟩:=hK
  exact apR_ok p lock _ h K ⟨h1,h2,hK⟩
 ·exact hK.elim
section
variable {l:List Stk} {t:Tst} {p:List (List Int)} {m:Int}
theorem paths_of (h:okPaths p=true):(1<=p.length/\p.length<=4)/\(1<=(p.getD 0 []).length/\(p.getD 0 []).length<=4)/\(∀ i,i<p.length->(p.getD i []).length=(p.getD 0 []).length)/\ndB p:=by
 unfold okPaths at h
 simp only [Bool.and_eq_true,decide_eq_true_eq,Bool.not_eq_true'] at h
 obtain ⟨⟨h1,h2⟩,h3⟩:=h
 unfold anyPt at h3
 rw [List.any_eq_false] at h3
 have h4:∀ i,i<p.length->(p.getD i []).length=(p.getD 0 []).length/\anyNd (p.getD i [])=false:=fun i hi=>by
  have:=h3 i (List.mem_range.2 hi)
  unfold qPt okPt at this
  simpa using this
 refine ⟨h1,h2,fun i hi=>(h4 i hi).1,fun i j=>?_⟩
 by_cases hi:i<p.length
 ·have h5:=(h4 i hi).2
  by_cases hj:j<(p.getD i []).length
  ·unfold anyNd at h5
   rw [List.any_eq_false] at h5
   have:=h5 j (List.mem_range.2 hj)
   unfold qNd okW at this
   simpa using this
  ·rw [List.getD_eq_getElem?_getD (l:=p.getD i []),List.getElem?_eq_none (by omega)]
   exact ⟨by decide,by decide⟩
 ·rw [List.getD_eq_getElem?_getD (l:=p),List.getElem?_eq_none (by omega)]
  exact ⟨by simp,by simp⟩
theorem cfg_of (ho:okAll l t=true) (h:okPaths p=true):Cfg l t p (p.getD 0 []).length:=by
 obtain ⟨hl,hp,ht,_⟩:=okAll_l ho
 obtain ⟨h1,h2,h3,h4⟩:=paths_of h
 exact ⟨hl,hp,okT_tB ht,h2.2,h1.2,h3,h4⟩
theorem pthB_of (h:okPaths p=true):pthB p:=by
 obtain ⟨h1,h2,h3,_⟩:=paths_of h
 refine ⟨⟨h1.1,by omega⟩,fun i=>?_⟩
 by_cases hi:i<p.length
 ·rw [h3 i hi]; omega
 ·rw [List.getD_eq_getElem?_getD (l:=p),List.getElem?_eq_none (by omega)]
  exact Nat.zero_le _
def PlnOut (l:List Stk) (t:Tst) (p:List (List Int)):Prop:=∃ r h',CallsV Try.prog 17 [stD l,.agg (tsL t),pthD p] ⟨0,[]⟩ r h'/\((plE l t p ≠ 0/\r=.ret (.tup [.nils,I (plE l t p)])) ∨ (plE l t p=0/\∃ x,planF l t p (p.getD 0 []).length (p.getD 0 []).length (2 ^ p.length - 1) (mostF l)=some x/\r=.ret (.tup [plnD l.length p.length (p.getD 0 []).length x,I 0])))
theorem plE_1 (h:okAll l t=false):plE l t p=1:=by unfold plE; rw [if_pos h]
theorem plE_2 (h:okAll l t=true) (h2:okPaths p=false):plE l t p=2:=by unfold plE; rw [if_neg (by rw [h]; simp),if_pos h2]
theorem plE_n (h:okAll l t=true) (h2:okPaths p=true) (h3:planF l t p (p.getD 0 []).length (p.getD 0 []).length (2 ^ p.length - 1) (mostF l)=none):plE l t p=4:=by unfold plE; rw [if_neg (by rw [h]; simp),if_neg (by rw [h2]; simp),h3]
theorem plE_s (h:okAll l t=true) (h2:okPaths p=true) {x:Rsl} (h3:planF l t p (p.getD 0 []).length (p.getD 0 []).length (2 ^ p.length - 1) (mostF l)=some x):plE l t p=0:=by unfold plE; rw [if_neg (by rw [h]; simp),if_neg (by rw [h2]; simp),h3]
theorem pln_out (ho:okAll l t=true) (hp:okPaths p=true) {r:VRes} {h':VH} (hc:CallsV Try.prog 17 [stD l,.agg (tsL t),pthD p] ⟨0,[]⟩ r h') (hk:PlnK l t p (p.getD 0 []).length r h'):PlnOut l t p:=by
 rcases pln_tell hc hk with ⟨h1,h2,hc2⟩ | ⟨x,h2,h1,hc2⟩
 ·exact ⟨_,_,hc2,.inl ⟨by rw [plE_n ho hp h1]; decide,by rw [plE_n ho hp h1]⟩⟩
 ·exact ⟨_,_,hc2,.inr ⟨plE_s ho hp h1,x,h1,rfl⟩⟩
theorem plnE_v (h:okAll l t=false ∨ (pthB p/\okPaths p=false)):PlnOut l t p:=by
 cases ho:okAll l t with
 | false=>
  obtain ⟨r,h',rfl,hc⟩:=of_callN (noL_good (tab1 (asK_ok l t false))) (f:=17) (args:=[stD l,.agg (tsL t),pthD p]) (h:=⟨0,[]⟩) (K:=fun r _=>r=.ret (.tup [.nils,I 1])) (cast (ple1_ev l t p _).symm ⟨isD_l,isD_t,ho,rfl⟩)
  exact ⟨_,_,hc,.inl ⟨by rw [plE_1 ho]; decide,by rw [plE_1 ho]⟩⟩
 | true=>
  obtain ⟨hb,hp⟩:=h.resolve_left (by rw [ho]; simp)
  have htab:∀ f T,tabS [asK l t true,apK p false] f=some T->SpOk Try.prog f T:=tab_ok _ (fun x hx=>by
   simp only [List.mem_cons,List.not_mem_nil,or_false] at hx
   rcases hx with rfl | rfl
   ·exact asK_ok l t true
   ·exact apK_ok p false)
  obtain ⟨r,h',rfl,hc⟩:=of_callN (noL_good htab) (f:=17) (args:=[stD l,.agg (tsL t),pthD p]) (h:=⟨0,[]⟩) (K:=fun r _=>r=.ret (.tup [.nils,I 2])) (cast (ple2_ev l t p _).symm ⟨isD_l,isD_t,ho,⟨rfl,rfl,fun _ _=>rfl⟩,⟨hb,hp⟩,rfl⟩)
  exact ⟨_,_,hc,.inl ⟨by rw [plE_2 ho hp]; decide,by rw [plE_2 ho hp]⟩⟩
theorem plnO_v {d:List Int} (hd:d.length<=100000):PlnOut l t [d]:=by
 cases ho:okAll l t with
 | false=>exact plnE_v (.inl ho)
 | true=>
  have hb:pthB [d]:=⟨⟨Nat.le_refl _,by show 1<=100000; omega⟩,fun i=>by
   match i with
   | 0=>exact hd
   | _+1=>exact Nat.zero_le _⟩
  cases hp:okPaths [d] with
  | false=>exact plnE_v (.inr ⟨hb,hp⟩)
  | true=>
   have cf:=cfg_of (l:=l) (t:=t) ho hp
   obtain ⟨r,h',hc,hk⟩:=plp1 ho hp cf hb
   exact pln_out ho hp hc hk
theorem plnO_any {d:List Int} (hd:d.length<=100000):∃ h',CallsV Try.prog 17 [stD l,.agg (tsL t),pthD [d]] ⟨0,[]⟩ (.ret (.tup [.any,I (plE l t [d])])) h':=by
 obtain ⟨r,h',hc,⟨_,rfl⟩ | ⟨he,x,_,rfl⟩⟩:=plnO_v (l:=l) (t:=t) hd
 ·refine ⟨h',calls_res hc (fun R x hx=>?_)⟩
  obtain ⟨xs,⟨y,ys,_,h2,rfl⟩,rfl⟩:=hx
  exact ⟨_,⟨y,ys,trivial,h2,rfl⟩,rfl⟩
 ·refine ⟨h',calls_res hc (fun R x hx=>?_)⟩
  obtain ⟨xs,⟨y,ys,_,h2,rfl⟩,rfl⟩:=hx
  rw [he]
  exact ⟨_,⟨y,ys,trivial,h2,rfl⟩,rfl⟩
theorem plR1_ok (l:List Stk) (t:Tst):SpOk Try.prog (plR1 l t).1 (plR1 l t).2:=by
 intro lock args h K hK
 simp only [plR1] at hK
 split at hK
 ·obtain ⟨h1,h2,d,h3,h4,hK⟩:=hK
  obtain ⟨h',hc⟩:=plnO_any (l:=l) (t:=t) h4
  exact ⟨_,h,hK _ rfl,lockP_refl _ _,calls_lendDP 4 hc rfl ⟨h1,h2,h3,trivial⟩⟩
 ·exact hK.elim
def lasF (l:List Stk) (t:Tst) (m:Int):Int:=if plE l t [[m]] ≠ 0 then 0 else if plE l t [[m,m]] ≠ 0 then 1 else if plE l t [[m,m,m]] ≠ 0 then 2 else if plE l t [[m,m,m,m]] ≠ 0 then 3 else 4
def lasE (l:List Stk) (t:Tst) (m:Int):Int:=if okAll l t=false then 1 else if ¬ (0<=m/\m<=1048576) then 2 else 0
def lasN (l:List Stk) (t:Tst) (m:Int):Int:=if lasE l t m ≠ 0 then 0 else lasF l t m
theorem isD_pth {h:VH} {a b:Nat} {n:Nat} {d:List Int} {ty ty2:TypeId} {g:Nat->List VV} (hn:d.length=n) (hb:h.at b=.cells [.sl a n] ty) (ha:h.at a=.vec n g 1 ty2) (hg:∀ j,j<n->g j=dG d j):isD h 4 (.slice (.own b 0) 1 1) (pthD [d]):=by
 refine ⟨rfl,Nat.le_refl _,_,_,hb,Nat.le_refl _,fun j hj=>?_⟩
 obtain rfl:j=0:=by omega
 exact ⟨⟨⟨hn,Nat.le_refl _,_,_,ha,hg⟩,trivial⟩,rfl⟩
theorem lasts_v:∃ h',CallsV Try.prog 22 [stD l,.agg (tsL t),I m] ⟨0,[]⟩ (.ret (.tup [I (lasN l t m),I (lasE l t m)])) h':=by
 cases ho:okAll l t with
 | false=>
  obtain ⟨r,h',rfl,hc⟩:=of_callN (noL_good (tab1 (asK_ok l t false))) (f:=22) (args:=[stD l,.agg (tsL t),I m]) (h:=⟨0,[]⟩) (K:=fun r _=>r=.ret (.tup [I 0,I 1])) (cast (la1_ev l t m _).symm ⟨isD_l,isD_t,ho,rfl⟩)
  have e1:lasE l t m=1:=by unfold lasE; rw [if_pos ho]
  have e2:lasN l t m=0:=by unfold lasN; rw [if_pos (by rw [e1]; decide)]
  exact ⟨h',by rw [e1,e2]; exact hc⟩
 | true=>
  have htab:∀ f T,tabS [asK l t true,plR1 l t] f=some T->SpOk Try.prog f T:=tab_ok _ (fun x hx=>by
   simp only [List.mem_cons,List.not_mem_nil,or_false] at hx
   rcases hx with rfl | rfl
   ·exact asK_ok l t true
   ·exact plR1_ok l t)
  obtain ⟨r,h',rfl,hc⟩:=of_callN (noL_good htab) (f:=22) (args:=[stD l,.agg (tsL t),I m]) (h:=⟨0,[]⟩) (K:=fun r _=>r=.ret (.tup [I (lasN l t m),I (lasE l t m)])) (by
   refine cast (la_ev l t m _).symm ⟨isD_l,isD_t,ho,?_⟩
   by_cases h0:0<=m
   ·refine cond_dk h0 (cond_nd (fun h1=>?_) (fun h1=>?_))
    ·have e1:lasE l t m=2:=by unfold lasE; rw [if_neg (by rw [ho]; simp),if_pos (fun h=>h1 h.2)]
     have e2:lasN l t m=0:=by unfold lasN; rw [if_pos (by rw [e1]; decide)]
     rw [e1,e2]
    ·have e1:lasE l t m=0:=by unfold lasE; rw [if_neg (by rw [ho]; simp),if_neg (fun h=>h ⟨h0,h1⟩)]
     have e2:lasN l t m=lasF l t m:=by unfold lasN; rw [if_neg (fun h=>h e1)]
     rw [e1,e2]
     unfold lasF
     refine ⟨isD_l,isD_t,[m],isD_pth rfl rfl rfl (fun j hj=>by match j,hj with | 0,_=>rfl | _+1,hj=>exact absurd hj (by simp)),by simp,fun e he=>cond_nd (fun h=>?_) (fun h=>?_)⟩
     ·rw [if_pos (by rw [<- he]; exact h)]
     rw [if_neg (fun hn=>hn (he.symm.trans h))]
     refine ⟨isD_l,isD_t,[m,m],isD_pth rfl rfl rfl (fun j hj=>by match j,hj with | 0,_=>rfl | 1,_=>rfl | _+2,hj=>exact absurd hj (by simp)),by simp,fun e he=>cond_nd (fun h=>?_) (fun h=>?_)⟩
     ·rw [if_pos (by rw [<- he]; exact h)]; rfl
     rw [if_neg (fun hn=>hn (he.symm.trans h))]
     refine ⟨isD_l,isD_t,[m,m,m],isD_pth rfl rfl rfl (fun j hj=>by match j,hj with | 0,_=>rfl | 1,_=>rfl | 2,_=>rfl | _+3,hj=>exact absurd hj (by simp)),by simp,fun e he=>cond_nd (fun h=>?_) (fun h=>?_)⟩
     ·rw [if_pos (by rw [<- he]; exact h)]; rfl
     rw [if_neg (fun hn=>hn (he.symm.trans h))]
     refine ⟨isD_l,isD_t,[m,m,m,m],isD_pth rfl rfl rfl (fun j hj=>by match j,hj with | 0,_=>rfl | 1,_=>rfl | 2,_=>rfl | 3,_=>rfl | _+4,hj=>exact absurd hj (by simp)),by simp,fun e he=>cond_nd (fun h=>?_) (fun h=>?_)⟩
     ·rw [if_pos (by rw [<- he]; exact h)]; rfl
     rw [if_neg (fun hn=>hn (he.symm.trans h))]
   ·refine cond_d (fun h=>(h0 h).elim) (fun _=>?_)
    have e1:lasE l t m=2:=by unfold lasE; rw [if_neg (by rw [ho]; simp),if_pos (fun h=>h0 h.1)]
    have e2:lasN l t m=0:=by unfold lasN; rw [if_pos (by rw [e1]; decide)]
    rw [e1,e2])
  exact ⟨h',hc⟩
end
section
variable {l:List Stk} {t:Tst} {y m:Int}
end
section
variable {l:List Stk} {t:Tst} {y m:Int} {n:Nat->Int}
end
section
variable {l:List Stk} {t:Tst}
end
section
variable {l:List Stk} {t:Tst} {P:List (List Int)} {Y:Nat}
abbrev ndP (P:List (List Int)) (i y:Nat):Int:=(P.getD i []).getD y 0
theorem grpF_iff (hP:ndB P) {y rest:Nat}:∀ n:Nat,((grpF P y rest n).2 = -1/\(grpF P y rest n).1=0/\∀ i,i<n->rest.testBit i=false) ∨ (0<=(grpF P y rest n).2/\(∃ i,i<n/\rest.testBit i=true/\ndP P i y=(grpF P y rest n).2)/\∀ i,(grpF P y rest n).1.testBit i=true ↔ i<n/\rest.testBit i=true/\ndP P i y=(grpF P y rest n).2)
 | 0=>.inl ⟨rfl,rfl,fun i hi=>by omega⟩
 | n+1=>by
  have hn:=(hP n y).1
  rcases grpF_iff hP (y:=y) (rest:=rest) n with ⟨h1,h2,h3⟩ | ⟨h1,⟨i0,h0⟩,h2⟩
  ·unfold grpF
   by_cases hb:rest.testBit n=true
   ·rw [if_pos ⟨hb,.inl (by omega)⟩]
    dsimp only
    refine .inr ⟨hn,⟨n,by omega,hb,rfl⟩,fun i=>?_⟩
    rw [h2,Nat.zero_or,Nat.testBit_two_pow]
    simp only [decide_eq_true_eq]
    constructor
    ·rintro rfl; exact ⟨by omega,hb,rfl⟩
    ·rintro ⟨g1,g2,_⟩
     by_cases e:n=i
     ·exact e
     ·rw [h3 i (by omega)] at g2; cases g2
   ·rw [if_neg (fun h=>hb h.1)]
    refine .inl ⟨h1,h2,fun i hi=>?_⟩
    by_cases e:i=n
    ·subst e; simpa using hb
    ·exact h3 i (by omega)
  ·unfold grpF
   by_cases hb:rest.testBit n=true/\ndP P n y=(grpF P y rest n).2
   ·rw [if_pos ⟨hb.1,.inr hb.2⟩]
    dsimp only
    refine .inr ⟨hn,⟨n,by omega,hb.1,rfl⟩,fun i=>?_⟩
    rw [Nat.testBit_or,Bool.or_eq_true,h2,Nat.testBit_two_pow]
    simp only [decide_eq_true_eq]
    have e2:(P.getD n []).getD y 0=(grpF P y rest n).2:=hb.2
    rw [e2]
    constructor
    ·rintro (⟨g1,g2,g3⟩ | rfl)
     ·exact ⟨by omega,g2,g3⟩
     ·exact ⟨by omega,hb.1,hb.2⟩
    ·rintro ⟨g1,g2,g3⟩
     by_cases e:n=i
     ·exact .inr e
     ·exact .inl ⟨by omega,g2,g3⟩
   ·rw [if_neg (fun h=>hb ⟨h.1,h.2.resolve_left (by omega)⟩)]
    refine .inr ⟨h1,⟨i0,by omega,h0.2⟩,fun i=>?_⟩
    rw [h2]
    constructor
    ·rintro ⟨g1,g⟩; exact ⟨by omega,g⟩
    ·rintro ⟨g1,g2,g3⟩
     refine ⟨?_,g2,g3⟩
     rcases Nat.lt_or_ge i n with e | e
     ·exact e
     ·obtain rfl:i=n:=by omega
      exact (hb ⟨g2,g3⟩).elim
def isG (P:List (List Int)) (y rest i O:Nat):Prop:=∀ i',O.testBit i'=true ↔ rest.testBit i'=true/\ndP P i' y=ndP P i y
theorem grp_of (hP:ndB P) {y rest:Nat} (hr:rest<2 ^ P.length) (hz:rest ≠ 0):∃ i,rest.testBit i=true/\isG P y rest i (grpF P y rest P.length).1/\ndP P i y=(grpF P y rest P.length).2:=by
 have hlt:∀ i,rest.testBit i=true->i<P.length:=fun i hi=>by
  rcases Nat.lt_or_ge i P.length with h | h
  ·exact h
  ·rw [Nat.testBit_lt_two_pow (Nat.lt_of_lt_of_le hr (Nat.pow_le_pow_right (by omega) h))] at hi; cases hi
 rcases grpF_iff hP (y:=y) (rest:=rest) P.length with ⟨_,_,h3⟩ | ⟨_,⟨i,h1,h2,h3⟩,h4⟩
 ·exfalso
  apply hz
  apply Nat.eq_of_testBit_eq
  intro i
  rw [Nat.zero_testBit]
  cases hb:rest.testBit i with
  | false=>rfl
  | true=>rw [h3 i (hlt i hb)] at hb; cases hb
 ·refine ⟨i,h2,fun i'=>?_,h3⟩
  rw [h4,h3]
  exact ⟨fun h=>h.2,fun h=>⟨hlt i' h.1,h⟩⟩
theorem restG {y rest i O i':Nat} (hg:isG P y rest i O):(rest ^^^ (rest &&& O)).testBit i'=true ↔ rest.testBit i'=true/\ndP P i' y ≠ ndP P i y:=by
 rw [rest_bit,Bool.and_eq_true,Bool.not_eq_true']
 constructor
 ·rintro ⟨h1,h2⟩
  refine ⟨h1,fun e=>?_⟩
  rw [(hg i').2 ⟨h1,e⟩] at h2
  cases h2
 ·rintro ⟨h1,h2⟩
  refine ⟨h1,?_⟩
  cases hb:O.testBit i' with
  | false=>rfl
  | true=>exact (h2 ((hg i').1 hb).2).elim
theorem goF_out (hP:ndB P) {fol:Nat->Int->Option ((Nat->Int) × Rsl)} {y:Nat} {x:Rsl}:∀ (rest:Nat) (acc:Rsl),rest<2 ^ P.length->goF fol P y rest rest acc=some x->(∀ i,rest.testBit i=false->x i=acc i)/\∀ i,rest.testBit i=true->∃ O c x',isG P y rest i O/\fol O (ndP P i y)=some (c,x')/\∀ y',x i y'=if y'=y then c else x' i y':=by
 intro rest
 induction rest using Nat.strongRecOn with
 | ind rest ih=>
  intro acc hr hx
  by_cases hz:rest=0
  ·subst hz
   have hx:some acc=some x:=hx
   cases hx
   exact ⟨fun _ _=>rfl,fun i hi=>by rw [Nat.zero_testBit] at hi; cases hi⟩
  ·obtain ⟨i0,g1,g2,g3⟩:=grp_of hP (y:=y) hr hz
   obtain ⟨s1,s2,s3⟩:=goF_step hP (fol:=fol) (y:=y) (acc:=acc) hr hz
   rw [s3] at hx
   cases hf:fol (grpF P y rest P.length).1 (grpF P y rest P.length).2 with
   | none=>rw [hf] at hx; cases hx
   | some cx=>
    obtain ⟨c,x'⟩:=cx
    rw [hf] at hx
    obtain ⟨k1,k2⟩:=ih _ s2 _ (by omega) hx
    have hput:∀ i y',putR (grpF P y rest P.length).1 y c x' acc i y'=if (grpF P y rest P.length).1.testBit i=true then (if y'=y then c else x' i y') else acc i y':=fun i y'=>rfl
    refine ⟨fun i hi=>?_,fun i hi=>?_⟩
    ·have h1:(rest ^^^ (rest &&& (grpF P y rest P.length).1)).testBit i=false:=by rw [rest_bit,hi]; rfl
     rw [k1 i h1]
     funext y'
     rw [hput,if_neg (fun h=>by rw [((g2 i).1 h).1] at hi; cases hi)]
    ·by_cases e:ndP P i y=ndP P i0 y
     ·have hO:=(g2 i).2 ⟨hi,e⟩
      have h1:(rest ^^^ (rest &&& (grpF P y rest P.length).1)).testBit i=false:=by rw [rest_bit,hO]; simp
      refine ⟨_,c,x',fun i'=>by rw [g2,e],by rw [e,g3]; exact hf,fun y'=>?_⟩
      rw [k1 i h1,hput,if_pos hO]
     ·obtain ⟨O,c2,x2,q1,q2,q3⟩:=k2 i ((restG g2).2 ⟨hi,e⟩)
      refine ⟨O,c2,x2,fun i'=>?_,q2,q3⟩
      rw [q1 i',restG g2]
      exact ⟨fun h=>⟨h.1.1,h.2⟩,fun h=>⟨⟨h.1,by rw [h.2]; exact e⟩,h.2⟩⟩
theorem goF_is (hP:ndB P) {fol:Nat->Int->Option ((Nat->Int) × Rsl)} {y:Nat}:∀ (rest:Nat) (acc:Rsl),rest<2 ^ P.length->(∀ i O,rest.testBit i=true->isG P y rest i O->(fol O (ndP P i y)).isSome=true)->(goF fol P y rest rest acc).isSome=true:=by
 intro rest
 induction rest using Nat.strongRecOn with
 | ind rest ih=>
  intro acc hr hx
  by_cases hz:rest=0
  ·subst hz; rfl
  ·obtain ⟨i0,g1,g2,g3⟩:=grp_of hP (y:=y) hr hz
   obtain ⟨s1,s2,s3⟩:=goF_step hP (fol:=fol) (y:=y) (acc:=acc) hr hz
   rw [s3]
   have h0:=hx i0 _ g1 g2
   rw [g3] at h0
   cases hf:fol (grpF P y rest P.length).1 (grpF P y rest P.length).2 with
   | none=>rw [hf] at h0; cases h0
   | some cx=>
    obtain ⟨c,x'⟩:=cx
    dsimp only
    refine ih _ s2 _ (by omega) (fun i O hi hO=>?_)
    have h1:=(restG g2).1 hi
    refine hx i O h1.1 (fun i'=>?_)
    rw [hO i',restG g2]
    exact ⟨fun h=>⟨h.1.1,h.2⟩,fun h=>⟨⟨h.1,by rw [h.2]; exact h1.2⟩,h.2⟩⟩
theorem isG_lt {y rest i O:Nat} (hr:rest<2 ^ P.length) (hg:isG P y rest i O):O<2 ^ P.length:=by
 refine Nat.lt_pow_two_of_testBit _ (fun i' hi'=>?_)
 cases hb:O.testBit i' with
 | false=>rfl
 | true=>
  have:=((hg i').1 hb).1
  rw [Nat.testBit_lt_two_pow (Nat.lt_of_lt_of_le hr (Nat.pow_le_pow_right (by omega) hi'))] at this
  cases this
end
def uS (s:Nat->Nat):Nat->List VV:=fun q=>[I (s q:Nat)]
def uD0:List Nat:=[15,14,13,12,7,0,2,3,4,5]
def uV0 (l:List Stk) (P:List (List Int)) (n:Nat) (s:Nat->Nat) (y:Nat) (a:Nat->Int) (i:Nat):List VV:=[I i,.sl 1 n,.bool false,.nils,.ptr (.own 0 0),stD l,pthD P,.tl n 1 (uS s),I y,.tl l.length 1 (chG a)]
def uB0 (t:Tst) (n:Nat) (E:Nat->List VV):List VB:=[.cells (tsL t) 25,.vec n E 1 26]
def uD2:List Nat:=19::18::17::16::uD0
def uV2 (l:List Stk) (P:List (List Int)) (n:Nat) (s:Nat->Nat) (y:Nat) (a:Nat->Int) (i:Nat) (d:Int) (c k:Nat):List VV:=I k::.sl 3 c::.sl 2 c::I d::uV0 l P n s y a i
def uB2 (t:Tst) (n:Nat) (E:Nat->List VV) (c:Nat) (F G:Nat->List VV):List VB:=[.cells (tsL t) 25,.vec n E 1 26,.vec c F 1 3,.vec c G 1 3]
def uN2:List Nat:=[0,1,2,3]
def wlF (P:List (List Int)) (s:Nat->Nat) (y:Nat) (d:Int):Nat->List Nat
 | 0=>[]
 | k+1=>bif decide (ndP P (s k) y=d) then wlF P s y d k ++ [k] else wlF P s y d k
def uOk (P:List (List Int)) (n:Nat) (s:Nat->Nat) (y:Nat):Prop:=n<=100/\∀ q,q<n->s q<P.length/\y<(P.getD (s q) []).length
theorem u2_ev (l:List Stk) (t:Tst) (P:List (List Int)) (n:Nat) (s:Nat->Nat) (y i k c:Nat) (d:Int) (a:Nat->Int) (E F G:Nat->List VV) (X:VEx->List VV->List VB->Prop):codeE Try.prog (callN Try.prog noSpec noL 10 20) (fun _=>none) true 10 (ntOf Try.prog 50) 0 (loopB 2 (bodyOf Try.prog 50)) (uD2.zip (uV2 l P n s y a i d c k)) ⟨4,uN2.zip (uB2 t n E c F G)⟩ (obs 4 uD2 uN2 X) =
 (bif decide ((↑k:Int)<(↑n:Int)) then
 bif decide ((0:Int)<=(↑k:Int)/\(↑k:Int)<(↑n:Int)) then
 bif decide ((0:Int)<=(↑(s (↑k:Int).toNat):Int)/\(↑(s (↑k:Int).toNat):Int)<(↑P.length:Int)) then
 bif decide ((0:Int)<=(↑y:Int)/\(↑y:Int)<(↑(P.getD (↑(s (↑k:Int).toNat):Int).toNat []).length:Int)) then
 bif decide ((P.getD (↑(s (↑k:Int).toNat):Int).toNat []).getD (↑y:Int).toNat (0:Int)=d) then
 bif decide ((0:Int)<=(↑k:Int)/\(↑k:Int)<(↑n:Int)) then
 bif c.beq c then
 bif roomB (c+1) (8) then
 bif c.beq c then
 bif roomB (c+1) (8) then
 bif inK .i64 ((↑k:Int)+(1:Int)) then
 X .normal [I ((↑k:Int)+(1:Int)),VV.sl 3 (c+1),VV.sl 2 (c+1),I d,I (↑i:Int),VV.sl 1 n,VV.bool false,VV.nils,VV.ptr (.own 0 0),VV.tl l.length 5 (stG l),VV.tl P.length 1 (pthG P),VV.tl n 1 (uS s),I (↑y:Int),VV.tl l.length 1 (chG a)] [VB.cells [VV.tl t.T.length 1 (dG t.T),I t.far,I t.least] 25,VB.vec n E 1 26,VB.vec (c+1) (catG c F fun (j:Nat)=>List.take (1) (List.drop (j*(1)) [I (↑(s (↑k:Int).toNat):Int)])) (1) 3,VB.vec (c+1) (catG c G fun (j:Nat)=>List.take (1) (List.drop (j*(1)) [I (↑k:Int)])) (1) 3]
 else False
 else False
 else False
 else False
 else False
 else False
 else bif inK .i64 ((↑k:Int)+(1:Int)) then
 X .normal [I ((↑k:Int)+(1:Int)),VV.sl 3 c,VV.sl 2 c,I d,I (↑i:Int),VV.sl 1 n,VV.bool false,VV.nils,VV.ptr (.own 0 0),VV.tl l.length 5 (stG l),VV.tl P.length 1 (pthG P),VV.tl n 1 (uS s),I (↑y:Int),VV.tl l.length 1 (chG a)] [VB.cells [VV.tl t.T.length 1 (dG t.T),I t.far,I t.least] 25,VB.vec n E 1 26,VB.vec c F 1 3,VB.vec c G 1 3]
 else False
 else False
 else False
 else False
 else X (.exit 2) [I (↑k:Int),VV.sl 3 c,VV.sl 2 c,I d,I (↑i:Int),VV.sl 1 n,VV.bool false,VV.nils,VV.ptr (.own 0 0),VV.tl l.length 5 (stG l),VV.tl P.length 1 (pthG P),VV.tl n 1 (uS s),I (↑y:Int),VV.tl l.length 1 (chG a)] [VB.cells [VV.tl t.T.length 1 (dG t.T),I t.far,I t.least] 25,VB.vec n E 1 26,VB.vec c F 1 3,VB.vec c G 1 3]):=by kernel_rfl
def uF (s:Nat->Nat) (L:List Nat):Nat->List VV:=fun j=>[I (s (L.getD j 0):Nat)]
def uG (L:List Nat):Nat->List VV:=fun j=>[I (L.getD j 0:Nat)]
def chaD (l:List Stk) (a:Nat->Int):VV:=.tl l.length 1 (chG a)
def resD (l:List Stk) (n k:Nat) (f:Nat->Nat->Nat->Int):VV:=.tl n 1 (fun q=>[.tl k 1 (fun y'=>[chaD l (f q y')])])
def uD4:List Nat:=22::21::20::18::17::16::uD0
def uV4 (l:List Stk) (P:List (List Int)) (n:Nat) (s:Nat->Nat) (y:Nat) (a:Nat->Int) (i:Nat) (d:Int) (L:List Nat) (j:Nat) (f:Bool):List VV:=I j::allD a l.length::.bool f::.tl L.length 1 (uG L)::.tl L.length 1 (uF s L)::I d::uV0 l P n s y a i
def uD6:List Nat:=25::23::uD4
def uV6 (l:List Stk) (P:List (List Int)) (n:Nat) (s:Nat->Nat) (y:Nat) (a:Nat->Int) (i:Nat) (d:Int) (L:List Nat) (j k0:Nat) (R:Nat->Nat->Nat->Int) (k:Nat):List VV:=I k::resD l L.length k0 R::uV4 l P n s y a i d L j true
theorem u6_ev (l:List Stk) (t:Tst) (P:List (List Int)) (k0 k:Nat) (n:Nat) (s:Nat->Nat) (y i:Nat) (a:Nat->Int) (d:Int) (L:List Nat) (j:Nat) (R:Nat->Nat->Nat->Int) (E:Nat->List VV) (X:VEx->List VV->List VB->Prop):codeE Try.prog (callN Try.prog noSpec noL 10 20) (fun _=>none) true 10 (ntOf Try.prog 50) 0 (loopB 6 (bodyOf Try.prog 50)) (uD6.zip (uV6 l P n s y a i d L j k0 R k)) ⟨4,[0,1].zip (uB0 t n E)⟩ (obs 4 uD6 [0,1] X) =
 (bif decide ((↑k:Int)<(↑L.length:Int)) then
 bif decide ((0:Int)<=(↑k:Int)/\(↑k:Int)<(↑L.length:Int)) then
 bif decide ((0:Int)<=(↑j:Int)/\(↑j:Int)<(↑(allC a l.length).length:Int)) then
 bif roomB (0+l.length) (8) then
 bif (0+l.length).beq (0+l.length) && Nat.ble 1 (1) then
 bif decide ((0:Int)<=(↑k:Int)/\(↑k:Int)<(↑L.length:Int)) then
 bif roomB (1+k0) (24) then
 bif (1+k0).beq (1+k0) && Nat.ble 1 (1) then
 bif decide ((0:Int)<=(↑(L.getD (↑k:Int).toNat 0):Int)/\(↑(L.getD (↑k:Int).toNat 0):Int)<(↑n:Int)) then
 bif n.beq n && Nat.ble 1 Try.prog.types[26].size then
 bif n.beq n && [VV.tl (1+k0) (1) (catG 1 (fun (j_1:Nat)=>List.take (1) (List.drop (j_1*(1)) [VV.tl (0+l.length) (1) (catG 0 (fun (j:Nat)=>List.take (1) (List.drop (j*(1)) [])) (chG (chAt a l.length (↑j:Int).toNat)))])) fun (y':Nat)=>[chaD l (R (↑k:Int).toNat y')])].all VV.one && belL 0 [VV.tl (1+k0) (1) (catG 1 (fun (j_1:Nat)=>List.take (1) (List.drop (j_1*(1)) [VV.tl (0+l.length) (1) (catG 0 (fun (j:Nat)=>List.take (1) (List.drop (j*(1)) [])) (chG (chAt a l.length (↑j:Int).toNat)))])) fun (y':Nat)=>[chaD l (R (↑k:Int).toNat y')])] then
 bif inK .i64 ((↑k:Int)+(1:Int)) then
 X .normal [I ((↑k:Int)+(1:Int)),VV.tl L.length 1 fun (q:Nat)=>[VV.tl k0 1 fun (y':Nat)=>[chaD l (R q y')]],I (↑j:Int),VV.tl (allC a l.length).length 1 fun (j:Nat)=>[VV.tl l.length 1 (chG (chAt a l.length j))],VV.bool true,VV.tl L.length 1 (uG L),VV.tl L.length 1 (uF s L),I d,I (↑i:Int),VV.sl 1 n,VV.bool false,VV.nils,VV.ptr (.own 0 0),VV.tl l.length 5 (stG l),VV.tl P.length 1 (pthG P),VV.tl n 1 (uS s),I (↑y:Int),VV.tl l.length 1 (chG a)] [VB.cells [VV.tl t.T.length 1 (dG t.T),I t.far,I t.least] 25,VB.vec n (atG (↑(L.getD (↑k:Int).toNat 0):Int).toNat E [VV.tl (1+k0) (1) (catG 1 (fun (j_1:Nat)=>List.take (1) (List.drop (j_1*(1)) [VV.tl (0+l.length) (1) (catG 0 (fun (j:Nat)=>List.take (1) (List.drop (j*(1)) [])) (chG (chAt a l.length (↑j:Int).toNat)))])) fun (y':Nat)=>[chaD l (R (↑k:Int).toNat y')])]) (1) 26]
 else False
 else False
 else False
 else False
 else False
 else False
 else False
 else False
 else False
 else False
 else False
 else X (.exit 6) [I (↑k:Int),VV.tl L.length 1 fun (q:Nat)=>[VV.tl k0 1 fun (y':Nat)=>[chaD l (R q y')]],I (↑j:Int),VV.tl (allC a l.length).length 1 fun (j:Nat)=>[VV.tl l.length 1 (chG (chAt a l.length j))],VV.bool true,VV.tl L.length 1 (uG L),VV.tl L.length 1 (uF s L),I d,I (↑i:Int),VV.sl 1 n,VV.bool false,VV.nils,VV.ptr (.own 0 0),VV.tl l.length 5 (stG l),VV.tl P.length 1 (pthG P),VV.tl n 1 (uS s),I (↑y:Int),VV.tl l.length 1 (chG a)] [VB.cells [VV.tl t.T.length 1 (dG t.T),I t.far,I t.least] 25,VB.vec n E 1 26]):=by kernel_rfl
def uEl (l:List Stk) (k0:Nat) (c:Nat->Int) (f:Nat->Nat->Int):List VV:=[.tl (1+k0) 1 (catG 1 (fun j=>List.take 1 (List.drop (j*1) [.tl (0+l.length) 1 (catG 0 (fun j=>List.take 1 (List.drop (j*1) [])) (chG c))])) (fun y'=>[chaD l (f y')]))]
def stF (l:List Stk) (k0:Nat) (L:List Nat) (c:Nat->Int) (R:Nat->Nat->Nat->Int) (E:Nat->List VV):Nat->Nat->List VV
 | 0=>E
 | m+1=>atG (L.getD m 0) (stF l k0 L c R E m) (uEl l k0 c (R m))
def lU6 (l:List Stk) (t:Tst) (P:List (List Int)) (k0 n:Nat) (s:Nat->Nat) (y:Nat) (a:Nat->Int):LT:=fun lock tt h K=>
 ∃ (i:Nat) (d:Int) (L:List Nat) (j:Nat) (R:Nat->Nat->Nat->Int) (E:Nat->List VV),FitP lock h tt ⟨4,[0,1].zip (uB0 t n E)⟩ (uD6.zip (uV6 l P n s y a i d L j k0 R 0)) /\
  (j<(allC a l.length).length/\(∀ q,q<L.length->L.getD q 0<n)/\L.length<=100/\l.length<=6/\k0<=4)/\K .normal (uD6.zip (uV6 l P n s y a i d L j k0 R L.length)) ⟨4,[0,1].zip (uB0 t n (stF l k0 L (chAt a l.length j) R E L.length))⟩
def mtR (l:List Stk) (t:Tst):FuncId × Spec1:=(58,fun _ args h K=>match args with
 | [x,z,.int .i64 y,.int .i64 m,w]=>isD h 4 x (stD l)/\isD h 4 z (.agg (tsL t))/\∃ c:Nat->Int,isD h 4 w (inD (dC l c))/\(conB l t c/\0<=y/\y<=1000)/\K (.ret (.bool (meetsF l t c y m))) h
 | _=>False)
def lesR (l:List Stk):FuncId × Spec1:=(78,fun _ args h K=>match args with
 | [x,z]=>∃ a c:Nat->Int,x=chaD l a/\z=chaD l c/\(bdL a c/\l.length<=6)/\K (.ret (chaD l (lsF a c 6))) h
 | _=>False)
def bitsOf (n:Nat) (s:Nat->Nat) (O:Nat):Prop:=∀ i,O.testBit i=true ↔ ∃ q,q<n/\s q=i
def plnR (l:List Stk) (t:Tst) (P:List (List Int)) (Y k:Nat):FuncId × Spec1:=(50,fun _ args h K=>match args with
 | [x,z,p,v,.int .i64 y,w]=>x=stD l/\z=.agg (tsL t)/\p=pthD P/\∃ (n:Nat) (s:Nat->Nat) (O:Nat) (a:Nat->Int),v=.tl n 1 (uS s)/\w=chaD l a /\
   (y=(Y:Int) - k/\k<=Y/\n<=100/\bitsOf n s O/\O<2 ^ P.length/\leftB l a)/\(planF l t P Y k O a=none->K (.ret (.tup [.nils,.bool false])) h)/\∀ x:Rsl,planF l t P Y k O a=some x->K (.ret (.tup [resD l n k (fun q y'=>x (s q) (Y - k+y')),.bool true])) h
 | _=>False)
theorem u4_ev (l:List Stk) (t:Tst) (P:List (List Int)) (Y k0:Nat) (n:Nat) (s:Nat->Nat) (y i:Nat) (a:Nat->Int) (d:Int) (L:List Nat) (j:Nat) (f:Bool) (E:Nat->List VV) (X:VEx->List VV->List VB->Prop):codeE Try.prog (callN Try.prog (tabS [mtR l t,lesR l,plnR l t P Y k0]) noL 10 20) (tabB [(6,lU6 l t P k0 n s y a)]) true 10 (ntOf Try.prog 50) 0 (loopB 4 (bodyOf Try.prog 50)) (uD4.zip (uV4 l P n s y a i d L j f)) ⟨4,[0,1].zip (uB0 t n E)⟩ (obs 4 uD4 [0,1] X) =
 (bif decide ((↑j:Int)<(↑(allC a l.length).length:Int)) then
 bif !f then
 bif decide ((0:Int)<=(↑j:Int)/\(↑j:Int)<(↑(allC a l.length).length:Int)) then
 isD (VH.mk 4 ([0,1].zip (uB0 t n E))) 4 (VV.tl l.length 5 (stG l)) (stD l)/\isD (VH.mk 4 ([0,1].zip (uB0 t n E))) 4 (VV.agg [VV.tl t.T.length 1 (dG t.T),I t.far,I t.least]) (VV.agg (tsL t))/\∃ (c:Nat->Int),isD (VH.mk 4 ([0,1].zip (uB0 t n E))) 4 (VV.tl l.length 1 (chG (chAt a l.length (↑j:Int).toNat))) (inD (dC l c))/\(conB l t c/\(0:Int)<=(↑y:Int)/\(↑y:Int)<=(1000:Int))/\bif !meetsF l t c (↑y:Int) d then
 bif inK .i64 ((↑j:Int)+(1:Int)) then
 X .normal [I ((↑j:Int)+(1:Int)),VV.tl (allC a l.length).length 1 fun (j:Nat)=>[VV.tl l.length 1 (chG (chAt a l.length j))],VV.bool f,VV.tl L.length 1 (uG L),VV.tl L.length 1 (uF s L),I d,I (↑i:Int),VV.sl 1 n,VV.bool false,VV.nils,VV.ptr (.own 0 0),VV.tl l.length 5 (stG l),VV.tl P.length 1 (pthG P),VV.tl n 1 (uS s),I (↑y:Int),VV.tl l.length 1 (chG a)] [VB.cells [VV.tl t.T.length 1 (dG t.T),I t.far,I t.least] 25,VB.vec n E 1 26]
 else False
 else bif inK .i64 ((↑y:Int)+(1:Int)) then
 bif decide ((0:Int)<=(↑j:Int)/\(↑j:Int)<(↑(allC a l.length).length:Int)) then
 ∃ (a_1:Nat->Int),∃ (c_1:Nat->Int),VV.tl l.length 1 (chG a)=chaD l a_1/\VV.tl l.length 1 (chG (chAt a l.length (↑j:Int).toNat))=chaD l c_1/\(bdL a_1 c_1/\l.length<=6)/\stD l=stD l/\VV.agg (tsL t)=VV.agg (tsL t)/\pthD P=pthD P/\∃ (n_1:Nat),∃ (s_1:Nat->Nat),∃ (O:Nat),∃ (a_2:Nat->Int),VV.tl L.length 1 (uF s L)=VV.tl n_1 1 (uS s_1)/\VV.tl l.length 1 (chG (lsF a_1 c_1 6))=chaD l a_2/\((↑y:Int)+(1:Int)=(↑Y:Int) - (↑k0:Int)/\k0<=Y/\n_1<=100/\bitsOf n_1 s_1 O/\O<2 ^ P.length/\leftB l a_2)/\(planF l t P Y k0 O a_2=none->bif inK .i64 ((↑j:Int)+(1:Int)) then
 X .normal [I ((↑j:Int)+(1:Int)),VV.tl (allC a l.length).length 1 fun (j:Nat)=>[VV.tl l.length 1 (chG (chAt a l.length j))],VV.bool f,VV.tl L.length 1 (uG L),VV.tl L.length 1 (uF s L),I d,I (↑i:Int),VV.sl 1 n,VV.bool false,VV.nils,VV.ptr (.own 0 0),VV.tl l.length 5 (stG l),VV.tl P.length 1 (pthG P),VV.tl n 1 (uS s),I (↑y:Int),VV.tl l.length 1 (chG a)] [VB.cells [VV.tl t.T.length 1 (dG t.T),I t.far,I t.least] 25,VB.vec n E 1 26]
 else False)/\∀ (x:Rsl),planF l t P Y k0 O a_2=some x->∃ (i_1:Nat),∃ (d_1:Int),∃ (L_1:List Nat),∃ (j_1:Nat),∃ (R:Nat->Nat->Nat->Int),∃ (E_1:Nat->List VV),FitP 0 (VH.mk 4 ([0,1].zip (uB0 t n E))) ((25,I 0)::(20,VV.bool true)::(125,VV.bool false)::(125,VV.bool !true)::(124,VV.bool true)::(24,VV.bool true)::(23,VV.tl n_1 1 fun (q:Nat)=>[VV.tl k0 1 fun (y':Nat)=>[chaD l ((fun (q y':Nat)=>x (s_1 q) (Y - k0+y')) q y')]])::(123,VV.bool true)::(122,VV.tl n_1 1 fun (q:Nat)=>[VV.tl k0 1 fun (y':Nat)=>[chaD l ((fun (q y':Nat)=>x (s_1 q) (Y - k0+y')) q y')]])::(108,VV.tup [resD l n_1 k0 fun (q y':Nat)=>x (s_1 q) (Y - k0+y'),VV.bool true])::(121,VV.tup [resD l n_1 k0 fun (q y':Nat)=>x (s_1 q) (Y - k0+y'),VV.bool true])::(120,chaD l (lsF a_1 c_1 6))::(119,VV.tl l.length 1 (chG (chAt a l.length (↑j:Int).toNat)))::(118,VV.tp [VV.tl l.length 1 (chG (chAt a l.length (↑j:Int).toNat))])::(117,I (↑j:Int))::(116,VV.tl (allC a l.length).length 1 fun (j:Nat)=>[VV.tl l.length 1 (chG (chAt a l.length j))])::(115,VV.tl l.length 1 (chG a))::(114,I ((↑y:Int)+(1:Int)))::(113,I (↑y:Int))::(112,VV.tl L.length 1 (uF s L))::(111,VV.tl P.length 1 (pthG P))::(110,VV.agg [VV.tl t.T.length 1 (dG t.T),I t.far,I t.least])::(109,VV.tl l.length 5 (stG l))::(107,VV.bool false)::(107,VV.bool !meetsF l t c (↑y:Int) d)::(106,VV.bool (meetsF l t c (↑y:Int) d))::(105,VV.tl l.length 1 (chG (chAt a l.length (↑j:Int).toNat)))::(104,VV.tp [VV.tl l.length 1 (chG (chAt a l.length (↑j:Int).toNat))])::(103,I (↑j:Int))::(102,VV.tl (allC a l.length).length 1 fun (j:Nat)=>[VV.tl l.length 1 (chG (chAt a l.length j))])::(101,I d)::(100,I (↑y:Int))::(99,VV.agg [VV.tl t.T.length 1 (dG t.T),I t.far,I t.least])::(98,VV.tl l.length 5 (stG l))::(95,VV.bool true)::(95,VV.bool !f)::(94,VV.bool !f)::(92,VV.bool true)::(93,VV.bool f)::(92,VV.bool true)::(92,VV.bool (decide ((↑j:Int)<(↑(allC a l.length).length:Int))))::(91,VV.bool (decide ((↑j:Int)<(↑(allC a l.length).length:Int))))::(90,I (↑(allC a l.length).length:Int))::(89,VV.tl (allC a l.length).length 1 fun (j:Nat)=>[VV.tl l.length 1 (chG (chAt a l.length j))])::(88,I (↑j:Int))::uD4.zip (uV4 l P n s y a i d L j f)) (VH.mk 4 ([0,1].zip (uB0 t n E_1))) (uD6.zip (uV6 l P n s y a i_1 d_1 L_1 j_1 k0 R 0))/\(j_1<(allC a l.length).length/\(∀ (q:Nat),q<L_1.length->(L_1.getD q 0).succ.le n)/\L_1.length<=100/\l.length<=6/\k0<=4)/\bif inK .i64 ((↑j_1:Int)+(1:Int)) then
 X .normal [I ((↑j_1:Int)+(1:Int)),VV.tl (allC a l.length).length 1 fun (j:Nat)=>[VV.tl l.length 1 (chG (chAt a l.length j))],VV.bool true,VV.tl L_1.length 1 (uG L_1),VV.tl L_1.length 1 (uF s L_1),I d_1,I (↑i_1:Int),VV.sl 1 n,VV.bool false,VV.nils,VV.ptr (.own 0 0),VV.tl l.length 5 (stG l),VV.tl P.length 1 (pthG P),VV.tl n 1 (uS s),I (↑y:Int),VV.tl l.length 1 (chG a)] [VB.cells [VV.tl t.T.length 1 (dG t.T),I t.far,I t.least] 25,VB.vec n (stF l k0 L_1 (chAt a l.length j_1) R E_1 L_1.length) 1 26]
 else False
 else False
 else False
 else False
 else X (.exit 4) [I (↑j:Int),VV.tl (allC a l.length).length 1 fun (j:Nat)=>[VV.tl l.length 1 (chG (chAt a l.length j))],VV.bool f,VV.tl L.length 1 (uG L),VV.tl L.length 1 (uF s L),I d,I (↑i:Int),VV.sl 1 n,VV.bool false,VV.nils,VV.ptr (.own 0 0),VV.tl l.length 5 (stG l),VV.tl P.length 1 (pthG P),VV.tl n 1 (uS s),I (↑y:Int),VV.tl l.length 1 (chG a)] [VB.cells [VV.tl t.T.length 1 (dG t.T),I t.far,I t.least] 25,VB.vec n E 1 26]
 else X (.exit 4) [I (↑j:Int),VV.tl (allC a l.length).length 1 fun (j:Nat)=>[VV.tl l.length 1 (chG (chAt a l.length j))],VV.bool f,VV.tl L.length 1 (uG L),VV.tl L.length 1 (uF s L),I d,I (↑i:Int),VV.sl 1 n,VV.bool false,VV.nils,VV.ptr (.own 0 0),VV.tl l.length 5 (stG l),VV.tl P.length 1 (pthG P),VV.tl n 1 (uS s),I (↑y:Int),VV.tl l.length 1 (chG a)] [VB.cells [VV.tl t.T.length 1 (dG t.T),I t.far,I t.least] 25,VB.vec n E 1 26]):=by kernel_rfl
def lU2 (l:List Stk) (t:Tst) (P:List (List Int)) (n:Nat) (s:Nat->Nat) (y:Nat) (a:Nat->Int):LT:=fun lock tt h K=>
 ∃ (i:Nat) (d:Int) (E:Nat->List VV),FitP lock h tt ⟨2,[0,1].zip (uB0 t n E)⟩ (uD2.zip (I 0::.nils::.nils::I d::uV0 l P n s y a i))/\uOk P n s y /\
  ∀ L:List Nat,wlF P s y d n=L->K .normal (uD2.zip (uV2 l P n s y a i d L.length n)) ⟨4,uN2.zip (uB2 t n E L.length (uF s L) (uG L))⟩
def lU4 (l:List Stk) (t:Tst) (P:List (List Int)) (Y k0 n:Nat) (s:Nat->Nat) (y:Nat) (a:Nat->Int):LT:=fun lock tt h K=>
 ∃ (i:Nat) (d:Int) (L:List Nat) (O:Nat) (E:Nat->List VV),FitP lock h tt ⟨4,uN2.zip (uB2 t n E L.length (uF s L) (uG L))⟩ (uD4.zip (I 0::allD a l.length::.bool false::.sl 3 L.length::.sl 2 L.length::I d::uV0 l P n s y a i)) /\
  ((∀ q,q<L.length->L.getD q 0<n)/\L.length<=100/\bitsOf L.length (fun q=>s (L.getD q 0)) O/\O<2 ^ P.length) /\
  (folF l t P Y k0 a O d=none->K .normal (uD4.zip (uV4 l P n s y a i d L (allC a l.length).length false)) ⟨4,[0,1].zip (uB0 t n E)⟩) /\
  ∀ (j:Nat) (c:Nat->Int) (x:Rsl),folF l t P Y k0 a O d=some (c,x)->K .normal (uD4.zip (uV4 l P n s y a i d L j true)) ⟨4,[0,1].zip (uB0 t n (stF l k0 L c (fun q y'=>x (s (L.getD q 0)) (Y - k0+y')) E L.length))⟩
def chsR (l:List Stk) (a:Nat->Int):FuncId × Spec1:=(57,fun _ args h K=>match args with
 | [w]=>w=chaD l a/\(leftB l a/\l.length<=6)/\K (.ret (allD a l.length)) h
 | _=>False)
theorem u0_ev (l:List Stk) (t:Tst) (P:List (List Int)) (Y k0 n:Nat) (s:Nat->Nat) (y i:Nat) (a:Nat->Int) (E:Nat->List VV) (X:VEx->List VV->List VB->Prop):codeE Try.prog (callN Try.prog (tabS [chsR l a]) noL 10 20) (tabB [(2,lU2 l t P n s y a),(4,lU4 l t P Y k0 n s y a)]) true 10 (ntOf Try.prog 50) 0 (loopB 0 (bodyOf Try.prog 50)) (uD0.zip (uV0 l P n s y a i)) ⟨2,[0,1].zip (uB0 t n E)⟩ (obs 2 uD0 [0,1] X) =
 (bif decide ((↑i:Int)<(↑n:Int)) then
 bif decide ((0:Int)<=(↑i:Int)/\(↑i:Int)<(↑n:Int)) then
 bif decide ((0:Int)<=(↑(s (↑i:Int).toNat):Int)/\(↑(s (↑i:Int).toNat):Int)<(↑P.length:Int)) then
 bif decide ((0:Int)<=(↑y:Int)/\(↑y:Int)<(↑(P.getD (↑(s (↑i:Int).toNat):Int).toNat []).length:Int)) then
 ∃ (i_1:Nat),∃ (d:Int),∃ (E_1:Nat->List VV),FitP 0 (VH.mk 2 ([0,1].zip (uB0 t n E))) ((19,I 0)::(18,VV.nils)::(17,VV.nils)::(16,I ((P.getD (↑(s (↑i:Int).toNat):Int).toNat []).getD (↑y:Int).toNat (0:Int)))::(51,I ((P.getD (↑(s (↑i:Int).toNat):Int).toNat []).getD (↑y:Int).toNat (0:Int)))::(50,VV.tp [I ((P.getD (↑(s (↑i:Int).toNat):Int).toNat []).getD (↑y:Int).toNat (0:Int))])::(49,I (↑y:Int))::(48,VV.tl (P.getD (↑(s (↑i:Int).toNat):Int).toNat []).length 1 (dG (P.getD (↑(s (↑i:Int).toNat):Int).toNat [])))::(47,VV.tp [VV.tl (P.getD (↑(s (↑i:Int).toNat):Int).toNat []).length 1 (dG (P.getD (↑(s (↑i:Int).toNat):Int).toNat []))])::(46,I (↑(s (↑i:Int).toNat):Int))::(45,VV.tp [I (↑(s (↑i:Int).toNat):Int)])::(44,I (↑i:Int))::(43,VV.tl n 1 (uS s))::(42,VV.tl P.length 1 (pthG P))::(39,VV.bool true)::(39,VV.bool (decide ((↑i:Int)<(↑n:Int))))::(38,I (↑n:Int))::(37,VV.tl n 1 (uS s))::(36,I (↑i:Int))::uD0.zip (uV0 l P n s y a i)) (VH.mk 2 ([0,1].zip (uB0 t n E_1))) (uD2.zip (I 0::VV.nils::VV.nils::I d::uV0 l P n s y a i_1))/\uOk P n s y/\∀ (L:List Nat),wlF P s y d n=L->bif decide ((0:Int)<=(0:Int)/\(0:Int)<(↑L.length:Int)) then
 bif L.length.beq L.length && Nat.ble 1 Try.prog.types[3].size then
 bif L.length.beq L.length then
 bif decide ((↑(L.getD (Int.toNat (0:Int)) 0):Int)<(↑i_1:Int)) then
 bif inK .i64 ((↑i_1:Int)+(1:Int)) then
 X .normal [I ((↑i_1:Int)+(1:Int)),VV.sl 1 n,VV.bool false,VV.nils,VV.ptr (.own 0 0),VV.tl l.length 5 (stG l),VV.tl P.length 1 (pthG P),VV.tl n 1 (uS s),I (↑y:Int),VV.tl l.length 1 (chG a)] [VB.cells [VV.tl t.T.length 1 (dG t.T),I t.far,I t.least] 25,VB.vec n E_1 1 26]
 else False
 else chaD l a=chaD l a/\(leftB l a/\l.length<=6)/\∃ (i:Nat),∃ (d_1:Int),∃ (L_1:List Nat),∃ (O:Nat),∃ (E:Nat->List VV),FitP 0 (VH.mk 4 (uN2.zip (uB2 t n E_1 L.length (uF s L) (uG L)))) ((22,I 0)::(21,VV.tl (allC a l.length).length 1 fun (j:Nat)=>[VV.tl l.length 1 (chG (chAt a l.length j))])::(87,allD a l.length)::(86,VV.tl l.length 1 (chG a))::(20,VV.bool false)::(85,VV.bool false)::(85,VV.bool (decide ((↑(L.getD (Int.toNat (0:Int)) 0):Int)<(↑i_1:Int))))::(84,I (↑i_1:Int))::(83,I (↑(L.getD (Int.toNat (0:Int)) 0):Int))::(82,VV.ptr (VA.ve 3 L.length (1) (Int.toNat (0:Int)) 0))::(81,VV.sl 3 L.length)::uD2.zip (uV2 l P n s y a i_1 d L.length n)) (VH.mk 4 (uN2.zip (uB2 t n E L_1.length (uF s L_1) (uG L_1)))) (uD4.zip (I 0::allD a l.length::VV.bool false::VV.sl 3 L_1.length::VV.sl 2 L_1.length::I d_1::uV0 l P n s y a i))/\((∀ (q:Nat),q<L_1.length->(L_1.getD q 0).succ.le n)/\L_1.length<=100/\bitsOf L_1.length (fun (q:Nat)=>s (L_1.getD q 0)) O/\O<2 ^ P.length)/\(folF l t P Y k0 a O d_1=none->X VEx.ret [I (↑i:Int),VV.sl 1 n,VV.bool false,VV.nils,VV.ptr (.own 0 0),VV.tl l.length 5 (stG l),VV.tl P.length 1 (pthG P),VV.tl n 1 (uS s),I (↑y:Int),VV.tl l.length 1 (chG a)] [VB.cells [VV.tl t.T.length 1 (dG t.T),I t.far,I t.least] 25,VB.vec n E 1 26])/\∀ (j:Nat) (c:Nat->Int) (x:Rsl),folF l t P Y k0 a O d_1=some (c,x)->bif inK .i64 ((↑i:Int)+(1:Int)) then
 X .normal [I ((↑i:Int)+(1:Int)),VV.sl 1 n,VV.bool false,VV.nils,VV.ptr (.own 0 0),VV.tl l.length 5 (stG l),VV.tl P.length 1 (pthG P),VV.tl n 1 (uS s),I (↑y:Int),VV.tl l.length 1 (chG a)] [VB.cells [VV.tl t.T.length 1 (dG t.T),I t.far,I t.least] 25,VB.vec n (stF l k0 L_1 c (fun (q y':Nat)=>x (s (L_1.getD q 0)) (Y - k0+y')) E L_1.length) 1 26]
 else False
 else False
 else False
 else False
 else False
 else False
 else False
 else X (.exit 0) [I (↑i:Int),VV.sl 1 n,VV.bool false,VV.nils,VV.ptr (.own 0 0),VV.tl l.length 5 (stG l),VV.tl P.length 1 (pthG P),VV.tl n 1 (uS s),I (↑y:Int),VV.tl l.length 1 (chG a)] [VB.cells [VV.tl t.T.length 1 (dG t.T),I t.far,I t.least] 25,VB.vec n E 1 26]):=by kernel_rfl
def nilE:Nat->List VV:=fun _=>[.nils]
def finE (l:List Stk) (Y k0:Nat) (s:Nat->Nat) (x:Rsl):Nat->List VV:=fun q=>uEl l k0 (x (s q) (Y - (k0+1))) (fun y'=>x (s q) (Y - k0+y'))
def lU0 (l:List Stk) (t:Tst) (P:List (List Int)) (Y k0 n:Nat) (s:Nat->Nat) (S y:Nat) (a:Nat->Int):LT:=fun lock tt h K=>
 FitP lock h tt ⟨2,[0,1].zip (uB0 t n nilE)⟩ (uD0.zip (uV0 l P n s y a 0))/\(planF l t P Y (k0+1) S a=none->∀ (i:Nat) (E:Nat->List VV),K .ret (uD0.zip (uV0 l P n s y a i)) ⟨2,[0,1].zip (uB0 t n E)⟩) /\
  ∀ (x:Rsl) (E:Nat->List VV),planF l t P Y (k0+1) S a=some x->(∀ q,q<n->E q=finE l Y k0 s x q)->K .normal (uD0.zip (uV0 l P n s y a n)) ⟨2,[0,1].zip (uB0 t n E)⟩
theorem u_ev (l:List Stk) (t:Tst) (P:List (List Int)) (Y k0 n:Nat) (s:Nat->Nat) (S y:Nat) (a:Nat->Int) (Q:VRes->VH->Prop):callN Try.prog noSpec (atF 50 [(0,lU0 l t P Y k0 n s S y a)]) 10 20 0 (.fn 50) [stD l,.agg (tsL t),pthD P,.tl n 1 (uS s),I y,chaD l a] ⟨0,[]⟩ (fun r h=>Q r h) =
 (bif decide ((0:Int)<=(↑n:Int)/\(↑n:Int)=(↑n:Int)) then
 bif roomB (↑n:Int).toNat (24) then
 bif decide ((0:Int)<=(0:Int)/\(0:Int)<(↑P.length:Int)) then
 bif decide ((↑y:Int)=(↑(P.getD (Int.toNat (0:Int)) []).length:Int)) then
 Q (VRes.ret (VV.tup [VV.sl (1) (↑n:Int).toNat,VV.bool true])) (VH.mk (2) [(1,VB.vec (↑n:Int).toNat (fun (x:Nat)=>[ofS (Value.slice none 0 0)]) 1 26),(0,VB.cells [VV.tl t.T.length 1 (dG t.T),I t.far,I t.least] 25)])
 else FitP 0 (VH.mk 2 ([0,1].zip (uB0 t n nilE))) (uD0.zip (uV0 l P n s y a 0)) (VH.mk 2 ([0,1].zip (uB0 t n nilE))) (uD0.zip (uV0 l P n s y a 0))/\(planF l t P Y (k0+1) S a=none->∀ (i:Nat) (E:Nat->List VV),Q (VRes.ret (VV.tup [VV.nils,VV.bool false])) (VH.mk 2 [(0,VB.cells [VV.tl t.T.length 1 (dG t.T),I t.far,I t.least] 25),(1,VB.vec n E 1 26)]))/\∀ (x:Rsl) (E:Nat->List VV),planF l t P Y (k0+1) S a=some x->(∀ (q:Nat),q<n->E q=finE l Y k0 s x q)->Q (VRes.ret (VV.tup [VV.sl 1 n,VV.bool true])) (VH.mk 2 [(0,VB.cells [VV.tl t.T.length 1 (dG t.T),I t.far,I t.least] 25),(1,VB.vec n E 1 26)])
 else False
 else False
 else False):=by kernel_rfl
theorem uz_ev (l:List Stk) (t:Tst) (P:List (List Int)) (n:Nat) (s:Nat->Nat) (y:Nat) (a:Nat->Int) (Q:VRes->VH->Prop):callN Try.prog noSpec (atF 50 [(0,lZ)]) 10 20 0 (.fn 50) [stD l,.agg (tsL t),pthD P,.tl n 1 (uS s),I y,chaD l a] ⟨0,[]⟩ (fun r h=>Q r h) =
 (bif decide ((0:Int)<=(↑n:Int)/\(↑n:Int)=(↑n:Int)) then
 bif roomB (↑n:Int).toNat (24) then
 bif decide ((0:Int)<=(0:Int)/\(0:Int)<(↑P.length:Int)) then
 bif decide ((↑y:Int)=(↑(P.getD (Int.toNat (0:Int)) []).length:Int)) then
 Q (VRes.ret (VV.tup [VV.sl (1) (↑n:Int).toNat,VV.bool true])) (VH.mk (2) [(1,VB.vec (↑n:Int).toNat (fun (x:Nat)=>[ofS (Value.slice none 0 0)]) 1 26),(0,VB.cells [VV.tl t.T.length 1 (dG t.T),I t.far,I t.least] 25)])
 else False
 else False
 else False
 else False):=by kernel_rfl
theorem wd_ev (p:List (List Int)) (Q:VRes->Prop):callN Try.prog noSpec noL 10 20 0 (.fn 15) [pthD p] ⟨0,[]⟩ (fun r _=>Q r) =
 (let z1:=(decide ((↑p.length:Int) > (6:Int)));
 (bif decide ((0:Int)<(↑p.length:Int)) then
 bif decide ((0:Int)<=(0:Int)/\(0:Int)<(↑p.length:Int)) then
 bif decide ((↑(p.getD (Int.toNat (0:Int)) []).length:Int) > (6:Int)) then
 Q (.ret (.bool true))
 else bif decide ((0:Int)+(1:Int)<(↑p.length:Int)) then
 bif decide ((0:Int)<=(0:Int)+(1:Int)/\(0:Int)+(1:Int)<(↑p.length:Int)) then
 bif decide ((↑(p.getD ((0:Int)+(1:Int)).toNat []).length:Int) > (6:Int)) then
 Q (.ret (.bool true))
 else bif decide ((0:Int)+(1:Int)+(1:Int)<(↑p.length:Int)) then
 bif decide ((0:Int)<=(0:Int)+(1:Int)+(1:Int)/\(0:Int)+(1:Int)+(1:Int)<(↑p.length:Int)) then
 bif decide ((↑(p.getD ((0:Int)+(1:Int)+(1:Int)).toNat []).length:Int) > (6:Int)) then
 Q (.ret (.bool true))
 else bif decide ((0:Int)+(1:Int)+(1:Int)+(1:Int)<(↑p.length:Int)) then
 bif decide ((0:Int)<=(0:Int)+(1:Int)+(1:Int)+(1:Int)/\(0:Int)+(1:Int)+(1:Int)+(1:Int)<(↑p.length:Int)) then
 bif decide ((↑(p.getD ((0:Int)+(1:Int)+(1:Int)+(1:Int)).toNat []).length:Int) > (6:Int)) then
 Q (.ret (.bool true))
 else bif decide ((0:Int)+(1:Int)+(1:Int)+(1:Int)+(1:Int)<(↑p.length:Int)) then
 bif decide ((0:Int)<=(0:Int)+(1:Int)+(1:Int)+(1:Int)+(1:Int)/\(0:Int)+(1:Int)+(1:Int)+(1:Int)+(1:Int)<(↑p.length:Int)) then
 bif decide ((↑(p.getD ((0:Int)+(1:Int)+(1:Int)+(1:Int)+(1:Int)).toNat []).length:Int) > (6:Int)) then
 Q (.ret (.bool true))
 else bif decide ((0:Int)+(1:Int)+(1:Int)+(1:Int)+(1:Int)+(1:Int)<(↑p.length:Int)) then
 bif decide ((0:Int)<=(0:Int)+(1:Int)+(1:Int)+(1:Int)+(1:Int)+(1:Int)/\(0:Int)+(1:Int)+(1:Int)+(1:Int)+(1:Int)+(1:Int)<(↑p.length:Int)) then
 bif decide ((↑(p.getD ((0:Int)+(1:Int)+(1:Int)+(1:Int)+(1:Int)+(1:Int)).toNat []).length:Int) > (6:Int)) then
 Q (.ret (.bool true))
 else bif decide ((0:Int)+(1:Int)+(1:Int)+(1:Int)+(1:Int)+(1:Int)+(1:Int)<(↑p.length:Int)) then
 bif decide ((0:Int)<=(0:Int)+(1:Int)+(1:Int)+(1:Int)+(1:Int)+(1:Int)+(1:Int)/\(0:Int)+(1:Int)+(1:Int)+(1:Int)+(1:Int)+(1:Int)+(1:Int)<(↑p.length:Int)) then
 bif decide ((↑(p.getD ((0:Int)+(1:Int)+(1:Int)+(1:Int)+(1:Int)+(1:Int)+(1:Int)).toNat []).length:Int) > (6:Int)) then
 Q (.ret (.bool true))
 else bif decide ((0:Int)+(1:Int)+(1:Int)+(1:Int)+(1:Int)+(1:Int)+(1:Int)+(1:Int)<(↑p.length:Int)) then
 Q (.ret (.bool z1))
 else Q (.ret (.bool z1))
 else False
 else Q (.ret (.bool z1))
 else False
 else Q (.ret (.bool z1))
 else False
 else Q (.ret (.bool z1))
 else False
 else Q (.ret (.bool z1))
 else False
 else Q (.ret (.bool z1))
 else False
 else Q (.ret (.bool z1))
 else False
 else Q (.ret (.bool z1)))):=by kernel_rfl
def dsRPi:List Nat:=[4,3,2,0]
def VRPi (p:List (List Int)) (i k:Nat):List VV:=[I k,I i,.bool false,pthD p]
theorem rpi_ev (p:List (List Int)) (i k:Nat) (X:VEx->List VV->List VB->Prop):codeE Try.prog (callN Try.prog noSpec noL 10 20) (fun _=>none) true 10 (ntOf Try.prog 33) 0 (loopB 2 (bodyOf Try.prog 33)) (dsRPi.zip (VRPi p i k)) ⟨0,([]:List Nat).zip []⟩ (obs 0 dsRPi [] X) =
 (bif decide ((0:Int)<=(↑i:Int)/\(↑i:Int)<(↑p.length:Int)) then
 bif decide ((↑k:Int)<(↑(p.getD (↑i:Int).toNat []).length:Int)) then
 bif decide ((0:Int)<=(↑i:Int)/\(↑i:Int)<(↑p.length:Int)) then
 bif decide ((0:Int)<=(↑k:Int)/\(↑k:Int)<(↑(p.getD (↑i:Int).toNat []).length:Int)) then
 bif decide ((0:Int)<=(p.getD (↑i:Int).toNat []).getD (↑k:Int).toNat (0:Int)) then
 bif !decide ((p.getD (↑i:Int).toNat []).getD (↑k:Int).toNat (0:Int)<=(1048576:Int)) then
 X .ret [I (↑k:Int),I (↑i:Int),VV.bool false,pthD p] []
 else bif inK .i64 ((↑k:Int)+(1:Int)) then
 X .normal [I ((↑k:Int)+(1:Int)),I (↑i:Int),VV.bool false,pthD p] []
 else False
 else X .ret [I (↑k:Int),I (↑i:Int),VV.bool false,pthD p] []
 else False
 else False
 else X (.exit 2) [I (↑k:Int),I (↑i:Int),VV.bool false,pthD p] []
 else False):=by kernel_rfl
def dsRPo:List Nat:=[3,2,0]
def VRPo (p:List (List Int)) (i:Nat):List VV:=[I i,.bool false,pthD p]
end Go.Sx.Bln
